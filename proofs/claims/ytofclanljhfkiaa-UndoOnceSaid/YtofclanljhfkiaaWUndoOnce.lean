/- Joined texts: UnR. -/
import Derived.Test.YtofclanljhfkiaaM28
/- UndoOnce: the walk. -/
namespace Go.Proofs.Ytofclanljhfkiaa
open Go.RowKit Go.Proofs En Co
set_option linter.unusedVariables false
set_option linter.unusedSimpArgs false
set_option maxRecDepth 20000
attribute [local go_sem] nil_bytes nil_coins

/-- a table and an undo in a box -/
structure US (w wr : World) (g : Nat) (P : Option Addr) (ps : List (List Cn)) (b : Nat) (A : Option Addr) (n d : Nat) (hs : List Cm) (A2 : Option Addr) (n2 d2 : Nat) (ys : List Pt) : Prop where
  bel : Below w.heap.size w wr
  tb : Tb wr w.heap.size g P ps
  box : wr.heap[b]? = some (.cells #[.slice A n d, .slice A2 n2 d2] 25 (0, 0))
  sp : OwnP wr w.heap.size A n d hs
  md : OwnQ wr w.heap.size A2 n2 d2 ys
section
variable {w wr w2 : World} {g b n d n2 d2 : Nat} {P P' A A2 : Option Addr} {ps qs : List (List Cn)} {hs : List Cm} {ys : List Pt}
theorem US.below (h : US w wr g P ps b A n d hs A2 n2 d2 ys) (hb : Below wr.heap.size wr w2) : US w w2 g P ps b A n d hs A2 n2 d2 ys :=
  ⟨bThen h.bel hb, h.tb.below hb, kept h.box hb, h.sp.below hb, h.md.below hb⟩
theorem US.only (h : US w wr g P ps b A n d hs A2 n2 d2 ys) (ho : Only wr w2 g P) (ht : Tb w2 w.heap.size g P' qs) : US w w2 g P' qs b A n d hs A2 n2 d2 ys :=
  ⟨h.bel.trans (h.tb.frame ho), ht, ho.boxU h.tb.kinds h.box (by decide) (by decide), h.sp.only ho h.tb.kinds, ⟨Own.only h.md.row ho h.tb.kinds (by decide) (by decide), h.md.ok, h.md.len⟩⟩
theorem US.firmP (h : US w wr g P ps b A n d hs A2 n2 d2 ys) (base : Nat) : FirmP wr base ⟨A, n, d, hs⟩ := OwnP.firm (x := ⟨A, n, d, hs⟩) h.sp
end

set_option maxRecDepth 20000 in
set_option maxHeartbeats 4000000 in
theorem undoOnce_walk (B : Option Addr) (n c : Nat) (hs : List Cm) (B2 : Option Addr) (n2 c2 : Nat) (ks : List Cm) (w : World) (hl : FirmP w w.heap.size ⟨B, n, c, hs⟩ ∧ c ≤ 1759218604392) (hm : FirmP w w.heap.size ⟨B2, n2, c2, ks⟩ ∧ c2 ≤ 1759218604392) :
    Calls Try.prog 14 #[.slice B n c, .slice B2 n2 c2] w fun e w' => e = .returned (.bool true) ∧ Below w.heap.size w w' := by
  have BO := Lib.hid (both_any hl.1.arg hl.2)
  have hn2c : n2 ≤ c2 := hm.1.arg.cap
  have hc2 := hm.2
  have M := Lib.hid hm.1
  clear hl hm
  go_enter Try.func14, Try.ntmps14
  go_wp2_with (fail)
  refine BO.out.mono ?_
  rintro e w1 ⟨g, P, h, Q, ps, rfl, pr, ham, hb1⟩
  have DO := do_m pr.t (FirmQ.nil _ _) (M.out.below hb1)
  obtain ⟨qs, cs, pts, q, hr⟩ : ∃ qs cs pts q, doM ps [] (cns ks) = (qs, cs, pts, q) := ⟨_, _, _, _, rfl⟩
  rw [hr] at DO
  have DO := Lib.hid DO
  have S1 := Lib.hid (And.intro pr.t (And.intro ham (And.intro hb1 hr)))
  clear pr ham hb1 hr
  go_wp2_with (fail)
  refine DO.out.mono ?_
  rintro e w2 ⟨A, m1, d1, us, A2, m2, d2, rfl, hoP, hcs, hoQ, P', hT, hk, ho⟩
  simp only at hcs hoQ hT
  have l3 : Below w2.heap.size w2 (w2.alloc (.cells #[.slice A m1 d1, .slice A2 m2 d2] 25)) := (Below.refl _ _).alloc (Nat.le_refl _) _
  have s3 : US w (w2.alloc (.cells #[.slice A m1 d1, .slice A2 m2 d2] 25)) g P' qs w2.heap.size A m1 d1 us A2 m2 d2 pts :=
    ⟨bThen (S1.out.2.2.1.trans (S1.out.1.frame ho)) l3, hT.below l3, heap_alloc_new w2 _, hoP.below l3, hoQ.below l3⟩
  have hrise := S1.out.1.rise
  have hmost := S1.out.1.most
  by_cases hq0 : q = 0
  · have dq : (q == 0) = true := by rw [hq0]; rfl
    have dq2 : (q != 0) = false := by rw [hq0]; rfl
    by_cases hn0 : n2 = 0
    · have dn : ((n2 : Int) == 0) = true := by rw [hn0]; rfl
      have S3 := Lib.hid s3.bel
      clear s3 l3 hoP hcs hoQ hT hk ho hrise hq0 hn0
      go_wp2_with (fail)
      refine (works25_any _).mono ?_
      rintro e w4 ⟨rfl, hb4⟩
      have B4 := Lib.hid (bThen S3.out hb4)
      clear hb4
      go_wp2_with (fail)
      go_ret
      exact ⟨rfl, B4.out⟩
    · have dn : ((n2 : Int) == 0) = false := by simp; omega
      obtain ⟨y, r, hyr⟩ : ∃ y r, cns ks = y :: r := by
        have := M.out.arg.len
        cases hks : ks with
        | nil => rw [hks] at this; exact absurd this.symm hn0
        | cons a b => exact ⟨_, _, rfl⟩
      have hrr := S1.out.2.2.2
      rw [hq0] at hrr
      obtain ⟨u1, u2, rs, u3, u4⟩ := done_undone hrise hmost S1.out.2.1 hT.rise hrr
      have hc0 : cs = [] := List.eq_nil_of_length_eq_zero u2
      subst hc0
      rw [u1, hyr] at hrr
      have u5 := undone_twice hrr u4
      rw [hyr] at u1
      rw [← u1] at u5
      have BK := back_m s3.tb (s3.firmP _) (s3.md.firm _)
      rw [hcs, u3] at BK
      have BK := Lib.hid BK
      have x0 := (row_cells s3.box 0).1
      have x1 := (row_cells s3.box 1).1
      have S3 := Lib.hid (And.intro s3 (And.intro u5 hcs))
      clear s3 l3 hoP hoQ hT hk ho hrise hq0 hn0 u1 u2 u3 u4 u5 hrr hcs hyr
      go_wp2_with (fail)
      refine BK.out.mono ?_
      rintro e w4 ⟨rfl, P4, hT4, hk4, ho4⟩
      have s4 := S3.out.1.only ho4 hT4
      have BY := Lib.hid (bytes_m s4.tb)
      have S4 := Lib.hid s4
      clear s4 hT4 hk4 ho4 x0 x1
      go_wp2_with (fail)
      refine BY.out.mono ?_
      rintro e w5 ⟨D, d5, rfl, ho5, hb5⟩
      have s5 := S4.out.below hb5
      have BK2 := back_m s5.tb (s5.firmP _) (s5.md.firm _)
      rw [S3.out.2.2, S3.out.2.1] at BK2
      have BK2 := Lib.hid BK2
      have x0 := (row_cells s5.box 0).1
      have x1 := (row_cells s5.box 1).1
      have S5 := Lib.hid (And.intro s5 (OwnN.mono ho5 S4.out.bel.size))
      clear s5 ho5 hb5
      go_wp2_with (fail)
      refine BK2.out.mono ?_
      rintro e w6 ⟨rfl, P6, hT6, hk6, ho6⟩
      have s6 := S5.out.1.only ho6 hT6
      have o6 := Own.only S5.out.2 ho6 S5.out.1.tb.kinds (by decide) (by decide)
      have BY2 := Lib.hid (bytes_m s6.tb)
      have S6 := Lib.hid (And.intro s6 o6)
      clear s6 o6 hT6 hk6 ho6 x0 x1
      go_wp2_with (fail)
      refine BY2.out.mono ?_
      rintro e w7 ⟨D7, d7, rfl, ho7, hb7⟩
      have s7 := S6.out.1.below hb7
      have hlt : (tableF rs).length ≤ 9223372036854775807 := by
        have := ho7.len_cap
        unfold maxLen at this
        omega
      have SM := Lib.hid (same_is (c := d7) (d := d5) (r := true) (OwnN.rd ho7) (OwnN.rd (OwnN.below S6.out.2 hb7)) hlt (by simp))
      have S7 := Lib.hid s7.bel
      clear s7 ho7 hb7 hlt
      go_wp2_with (fail)
      refine SM.out.mono ?_
      rintro e w8 ⟨rfl, hb8⟩
      have S8 := Lib.hid (bThen S7.out hb8)
      clear hb8
      go_wp2_with (fail)
      refine (works25_any _).mono ?_
      rintro e w9 ⟨rfl, hb9⟩
      have B9 := Lib.hid (bThen S8.out hb9)
      clear hb9
      go_wp2_with (fail)
      go_ret
      exact ⟨rfl, B9.out⟩
  · have dq : (q == 0) = false := by simpa using hq0
    have dq2 : (q != 0) = true := by simpa using hq0
    have S3 := Lib.hid s3.bel
    clear s3 l3 hoP hcs hoQ hT hk ho hrise hq0
    go_wp2_with (fail)
    refine (works25_any _).mono ?_
    rintro e w4 ⟨rfl, hb4⟩
    have B4 := Lib.hid (bThen S3.out hb4)
    clear hb4
    go_wp2_with (fail)
    go_ret
    exact ⟨rfl, B4.out⟩
end Go.Proofs.Ytofclanljhfkiaa
