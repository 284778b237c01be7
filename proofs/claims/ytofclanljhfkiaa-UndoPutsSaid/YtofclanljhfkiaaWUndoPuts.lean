/- Joined texts: UnX. -/
import Derived.Test.YtofclanljhfkiaaM27
import Derived.Test.YtofclanljhfkiaaM30
/- UndoPuts: the walk. -/
namespace Go.Proofs.Ytofclanljhfkiaa
open Go.RowKit Go.Proofs En Co
set_option linter.unusedVariables false
set_option linter.unusedSimpArgs false
set_option maxRecDepth 20000
attribute [local go_sem] nil_bytes nil_coins


set_option maxRecDepth 20000 in
set_option maxHeartbeats 4000000 in
theorem undoPuts_walk (A : Option Addr) (n c : Nat) (hs : List Cm) (B : Option Addr) (n2 c2 : Nat) (xs : List Pt) (D : Option Addr) (n3 c3 : Nat) (b : List Int) (w : World) (hu : FirmP w w.heap.size ⟨A, n, c, hs⟩ ∧ FirmQ w w.heap.size B n2 c2 xs ∧ c ≤ 1759218604392 ∧ c2 ≤ 3518437208781) (hb : Arg w D n3 c3 b ∧ c3 ≤ 140737488351232) :
    Calls Try.prog 12 #[.agg #[.slice A n c, .slice B n2 c2], .slice D n3 c3] w fun e w' => e = .returned (.bool true) ∧ Below w.heap.size w w' := by
  have hn1 : n ≤ c := hu.1.arg.cap
  have hn2 := hu.2.1.cap
  have hc1 := hu.2.2.1
  have hc2 := hu.2.2.2
  have r0 : (w.alloc (.cells #[.slice A n c, .slice B n2 c2] 25)).heap[w.heap.size]? = some (.cells #[.slice A n c, .slice B n2 c2] 25 (0, 0)) := heap_alloc_new w _
  have b0 : Below w.heap.size w (w.alloc (.cells #[.slice A n c, .slice B n2 c2] 25)) := (Below.refl _ _).alloc (Nat.le_refl _) _
  have x0 := (row_cells r0 0).1
  have x1 := (row_cells r0 1).1
  have H := Lib.hid (And.intro (hu.1.below b0) (And.intro (hu.2.1.below b0) (And.intro (hb.1.below b0) (And.intro r0 b0))))
  clear hu hb r0 b0
  go_enter Try.func12, Try.ntmps12
  by_cases h1 : 600 < n
  · have d1 : decide ((n : Int) > 600) = true := decide_eq_true (by omega)
    go_wp2_with (fail)
    refine (works25_any _).mono ?_
    rintro e w1 ⟨rfl, hb1⟩
    have B1 := Lib.hid (bThen H.out.2.2.2.2 hb1)
    clear hb1
    go_wp2_with (fail)
    go_ret
    exact ⟨rfl, B1.out⟩
  · have d1 : decide ((n : Int) > 600) = false := decide_eq_false (by omega)
    by_cases h2 : 600 < n2
    · have d2 : decide ((n2 : Int) > 600) = true := decide_eq_true (by omega)
      go_wp2_with (fail)
      refine (works25_any _).mono ?_
      rintro e w1 ⟨rfl, hb1⟩
      have B1 := Lib.hid (bThen H.out.2.2.2.2 hb1)
      clear hb1
      go_wp2_with (fail)
      go_ret
      exact ⟨rfl, B1.out⟩
    · have d2 : decide ((n2 : Int) > 600) = false := decide_eq_false (by omega)
      have PU := putU_any H.out.1.arg H.out.2.1
      obtain ⟨pb, pq, hp⟩ : ∃ pb pq, putUF (cns hs) xs = (pb, pq) := ⟨_, _, rfl⟩
      rw [hp] at PU
      have PU := Lib.hid PU
      have HP := Lib.hid hp
      have dpq : (pq == pq) = true := beq_self_eq_true _
      obtain ⟨cs, ps, rq, hrd⟩ : ∃ cs ps rq, readUF b = (cs, ps, rq) := ⟨_, _, _, rfl⟩
      have HR := Lib.hid hrd
      have drq : (rq == rq) = true := beq_self_eq_true _
      clear hp hrd
      go_wp2_with (fail)
      refine PU.out.mono ?_
      rintro e w1 ⟨D1, d1', rfl, ho1, hb1⟩
      have RP := rputU_any (H.out.1.below hb1).arg (H.out.2.1.below hb1)
      rw [HP.out] at RP
      have RP := Lib.hid RP
      have r1 := kept H.out.2.2.2.1 hb1
      have y0 := (row_cells r1 0).1
      have y1 := (row_cells r1 1).1
      have S1 := Lib.hid (And.intro (OwnN.mono ho1 H.out.2.2.2.2.size) (And.intro (H.out.2.2.1.below hb1) (bThen H.out.2.2.2.2 hb1)))
      clear ho1 hb1 r1 x0 x1
      go_wp2_with (fail)
      refine RP.out.mono ?_
      rintro e w2 ⟨D2, d2', rfl, ho2, hb2⟩
      have RD := readU_any (S1.out.2.1.below hb2)
      rw [HR.out] at RD
      have RD := Lib.hid RD
      have S2 := Lib.hid (And.intro (OwnN.below S1.out.1 hb2) (And.intro (OwnN.mono ho2 S1.out.2.2.size) (And.intro (S1.out.2.1.below hb2) (bThen S1.out.2.2 hb2))))
      clear ho2 hb2 y0 y1
      go_wp2_with (fail)
      refine RD.out.mono ?_
      rintro e w3 ⟨A3, m3, e3, us3, B3, k3, f3, rfl, ho3, hc3, hq3, hb3⟩
      simp only at hc3 hq3
      have l4 : Below w3.heap.size w3 (w3.alloc (.cells #[.slice A3 m3 e3, .slice B3 k3 f3] 25)) := (Below.refl _ _).alloc (Nat.le_refl _) _
      have bl := bThen hb3 l4
      have RR := rreadU_any (S2.out.2.2.1.below bl)
      rw [HR.out] at RR
      have RR := Lib.hid RR
      have S4 := Lib.hid (And.intro (OwnN.below S2.out.1 bl) (And.intro (OwnN.below S2.out.2.1 bl) (And.intro (bThen S2.out.2.2.2 bl) (And.intro ((ho3.below l4).mono S2.out.2.2.2.size) (And.intro ((hq3.below l4).mono S2.out.2.2.2.size) (And.intro hc3 (heap_alloc_new w3 (.cells #[.slice A3 m3 e3, .slice B3 k3 f3] 25))))))))
      clear ho3 hc3 hq3 hb3 l4 bl
      go_wp2_with (fail)
      refine RR.out.mono ?_
      rintro e w5 ⟨A5, m5, e5, us5, B5, k5, f5, rfl, ho5, hc5, hq5, hb5⟩
      simp only at hc5 hq5
      have l6 : Below w5.heap.size w5 (w5.alloc (.cells #[.slice A5 m5 e5, .slice B5 k5 f5] 25)) := (Below.refl _ _).alloc (Nat.le_refl _) _
      have bl := bThen hb5 l6
      have o1 := OwnN.below S4.out.1 bl
      have o2 := OwnN.below S4.out.2.1 bl
      have hlt : pb.length ≤ 9223372036854775807 := by
        have := Own.len_cap o1
        unfold maxLen at this
        omega
      have SM := Lib.hid (same_is (c := d1') (d := d2') (r := true) (OwnN.rd o1) (OwnN.rd o2) hlt (by simp))
      have S6 := Lib.hid (And.intro (bThen S4.out.2.2.1 bl) (And.intro (S4.out.2.2.2.1.below bl) (And.intro (S4.out.2.2.2.2.1.below bl) (And.intro ((ho5.below l6).mono S4.out.2.2.1.size) (And.intro ((hq5.below l6).mono S4.out.2.2.1.size) (And.intro hc5 (And.intro (kept S4.out.2.2.2.2.2.2 bl) (heap_alloc_new w5 (.cells #[.slice A5 m5 e5, .slice B5 k5 f5] 25)))))))))
      clear ho5 hc5 hq5 hb5 l6 bl o1 o2 hlt
      go_wp2_with (fail)
      refine SM.out.mono ?_
      rintro e w7 ⟨rfl, hb7⟩
      have z0 := (row_cells (kept S6.out.2.2.2.2.2.2.1 hb7) 0).1
      have z1 := (row_cells (kept S6.out.2.2.2.2.2.2.1 hb7) 1).1
      have v0 := (row_cells (kept S6.out.2.2.2.2.2.2.2 hb7) 0).1
      have v1 := (row_cells (kept S6.out.2.2.2.2.2.2.2 hb7) 1).1
      have SU := Lib.hid (rsameU_any (r := true) (S6.out.2.1.below hb7).arg ((S6.out.2.2.1.below hb7).firm w.heap.size) (S6.out.2.2.2.1.below hb7).arg ((S6.out.2.2.2.2.1.below hb7).firm w.heap.size) (decide_eq_true ⟨by rw [S4.out.2.2.2.2.2.1, S6.out.2.2.2.2.2.1], rfl⟩))
      have B7 := Lib.hid (bThen S6.out.1 hb7)
      clear hb7
      go_wp2_with (fail)
      refine SU.out.mono ?_
      rintro e w8 ⟨rfl, hb8⟩
      have B8 := Lib.hid (bThen B7.out hb8)
      clear hb8 z0 z1 v0 v1
      go_wp2_with (fail)
      refine (works25_any _).mono ?_
      rintro e w9 ⟨rfl, hb9⟩
      have B9 := Lib.hid (bThen B8.out hb9)
      clear hb9
      go_wp2_with (fail)
      go_ret
      exact ⟨rfl, B9.out⟩
end Go.Proofs.Ytofclanljhfkiaa
