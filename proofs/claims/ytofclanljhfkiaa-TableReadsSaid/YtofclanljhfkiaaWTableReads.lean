/- Joined texts: TbZ. -/
import Derived.Test.YtofclanljhfkiaaM20
/- TableReads: the table and the reference's read alike. -/
namespace Go.Proofs.Ytofclanljhfkiaa
open Go.RowKit Go.Proofs En Co
set_option linter.unusedVariables false
set_option linter.unusedSimpArgs false
set_option maxRecDepth 20000

set_option maxRecDepth 20000 in
set_option maxHeartbeats 4000000 in
theorem tableReads_walk (A : Option Addr) (n c : Nat) (b : List Int) (w : World) (hb' : Arg w A n c b ∧ c ≤ 140737488351232) :
    Calls Try.prog 8 #[.slice A n c] w fun e w' => e = .returned (.bool true) ∧ Below w.heap.size w w' := by
  obtain ⟨hb, _⟩ := hb'
  have hlen := hb.len
  have hcap := hb.cap
  have hbl := hb.rd.len
  by_cases hn : 30000 < n
  · have d0 : decide ((n : Int) > 30000) = true := decide_eq_true (by omega)
    have W := Lib.hid (works24_any w)
    go_enter Try.func8, Try.ntmps8
    go_wp2_with (fail)
    refine W.out.mono ?_
    rintro e w2 ⟨rfl, hb2⟩
    have B2 := Lib.hid hb2
    clear hb2
    go_wp2_with (fail)
    go_ret
    exact ⟨rfl, B2.out⟩
  · have d0 : decide ((n : Int) > 30000) = false := decide_eq_false (by omega)
    obtain ⟨ps, q, hr⟩ : ∃ ps q, readTF b = (ps, q) := ⟨_, _, rfl⟩
    have RD := Lib.hid (read_m hb hr)
    have HB := Lib.hid hb
    have HR := Lib.hid hr
    clear hb hr
    go_enter Try.func8, Try.ntmps8
    go_wp2_with (fail)
    refine RD.out.mono ?_
    rintro e w2 ⟨hb2, hcase⟩
    have RR := Lib.hid (rread_m (HB.out.below hb2) HR.out (by omega))
    have B2 := Lib.hid hb2
    rcases hcase with ⟨hq, rfl⟩ | ⟨rfl, g, P, rfl, hT⟩
    · have Q := Lib.hid hq
      have dq : (q == q) = true := beq_self_eq_true _
      have dq0 : (q == 0) = false := by simpa using hq
      clear hb2 hq
      go_wp2_with (fail)
      refine RR.out.mono ?_
      rintro e w3 ⟨hb3, hcase⟩
      rcases hcase with ⟨_, rfl⟩ | ⟨rfl, _⟩
      · have B3 := Lib.hid (bThen B2.out hb3)
        have W := Lib.hid (works24_any w3)
        clear hb3
        go_wp2_with (fail)
        refine W.out.mono ?_
        rintro e w4 ⟨rfl, hb4⟩
        have B4 := Lib.hid (bThen B3.out hb4)
        clear hb4
        go_wp2_with (fail)
        go_ret
        exact ⟨rfl, B4.out⟩
      · exact absurd rfl Q.out
    · have T := Lib.hid hT
      clear hb2 hT
      go_wp2_with (fail)
      refine RR.out.mono ?_
      rintro e w3 ⟨hb3, hcase⟩
      rcases hcase with ⟨h0, rfl⟩ | ⟨_, g2, Q, rfl, hRT⟩
      · exact absurd rfl h0
      · have t3 := T.out.below hb3
        have B3 := Lib.hid (bThen B2.out hb3)
        have AK := Lib.hid (alike24_any t3 hRT)
        have T3 := Lib.hid t3
        clear hb3 t3 hRT
        go_wp2_with (fail)
        refine AK.out.mono ?_
        rintro e w4 ⟨rfl, hb4⟩
        have B4 := Lib.hid (bThen B3.out hb4)
        have BY := bytes_m (T3.out.below hb4)
        rw [readTF_back HB.out.isB HR.out, hbl] at BY
        have BY := Lib.hid BY
        clear hb4
        go_wp2_with (fail)
        refine BY.out.mono ?_
        rintro e w5 ⟨A5, k5, rfl, ho5, hb5⟩
        have B5 := Lib.hid (bThen B4.out hb5)
        have S0 := Lib.hid (same_is (r := true) (c := k5) (d := c) ho5.rd (HB.out.below B5.out).rd (by omega) (decide_eq_true rfl))
        clear hb5 ho5
        go_wp2_with (fail)
        refine S0.out.mono ?_
        rintro e w6 ⟨rfl, hb6⟩
        have B6 := Lib.hid (bThen B5.out hb6)
        have W := Lib.hid (works24_any w6)
        clear hb6
        go_wp2_with (fail)
        refine W.out.mono ?_
        rintro e w7 ⟨rfl, hb7⟩
        have B7 := Lib.hid (bThen B6.out hb7)
        clear hb7
        go_wp2_with (fail)
        go_ret
        exact ⟨rfl, B7.out⟩
end Go.Proofs.Ytofclanljhfkiaa
