/- Joined texts: UoC. -/
import Derived.Test.YtofclanljhfkiaaM31
/- UndoDoes: the walk. -/
namespace Go.Proofs.Ytofclanljhfkiaa
open Go.RowKit Go.Proofs En Co
set_option linter.unusedVariables false
set_option linter.unusedSimpArgs false
set_option maxRecDepth 20000
attribute [local go_sem] nil_bytes nil_coins

/-- a box's two cells -/
abbrev StU (b : Nat) (u v : Value) (w' : World) : Prop := w'.cell? ⟨b, 0, none⟩ = some u ∧ w'.cell? ⟨b, 1, none⟩ = some v
theorem UV.st {wr : World} {base b n c m d : Nat} {A B : Option Addr} {hs : List Cm} {xs : List Pt} (u : UV wr base b A n c hs B m d xs) : StU b (.slice A n c) (.slice B m d) wr := ⟨u.c0, u.c1⟩

set_option maxRecDepth 20000 in
set_option maxHeartbeats 4000000 in
theorem undoDoes_walk (B : Option Addr) (n c : Nat) (hs : List Cm) (B2 : Option Addr) (n2 c2 : Nat) (xs : List Pt) (B3 : Option Addr) (n3 c3 : Nat) (ks : List Cm) (B4 : Option Addr) (n4 c4 : Nat) (us : List Cm) (B5 : Option Addr) (n5 c5 : Nat) (ys : List Pt) (w : World)
    (hl : FirmP w w.heap.size ⟨B, n, c, hs⟩ ∧ c ≤ 1759218604392) (hx : FirmQ w w.heap.size B2 n2 c2 xs ∧ c2 ≤ 3518437208781) (hm : FirmP w w.heap.size ⟨B3, n3, c3, ks⟩ ∧ c3 ≤ 1759218604392) (hu : FirmP w w.heap.size ⟨B4, n4, c4, us⟩ ∧ FirmQ w w.heap.size B5 n5 c5 ys ∧ c4 ≤ 1759218604392 ∧ c5 ≤ 3518437208781) :
    Calls Try.prog 13 #[.slice B n c, .slice B2 n2 c2, .slice B3 n3 c3, .agg #[.slice B4 n4 c4, .slice B5 n5 c5]] w fun e w' => e = .returned (.bool true) ∧ Below w.heap.size w w' := by
  have b0 : Below w.heap.size w (w.alloc (.cells #[.slice B4 n4 c4, .slice B5 n5 c5] 25)) := (Below.refl _ _).alloc (Nat.le_refl _) _
  have u7 : UV (w.alloc (.cells #[.slice B4 n4 c4, .slice B5 n5 c5] 25)) w.heap.size w.heap.size B4 n4 c4 us B5 n5 c5 ys := ⟨heap_alloc_new w _, hu.1.below b0, hu.2.1.below b0⟩
  have BO := Lib.hid (both_any (hl.1.arg.below b0) hl.2)
  have M := Lib.hid (And.intro (hx.1.below b0) (And.intro (hm.1.below b0) (And.intro u7 b0)))
  clear hl hx hm hu u7 b0
  go_enter Try.func13, Try.ntmps13
  go_wp2_with (fail)
  refine BO.out.mono ?_
  rintro e w1 ⟨g, P, h, Q, ps, rfl, pr, ham, hb1⟩
  obtain ⟨base, hbase⟩ : ∃ base, (w.alloc (.cells #[.slice B4 n4 c4, .slice B5 n5 c5] 25)).heap.size = base := ⟨_, rfl⟩
  have hLb : w.heap.size ≤ base := by rw [← hbase]; exact M.out.2.2.2.size
  rw [hbase] at pr
  have fx := (M.out.1.below hb1).mono hLb
  have fm := (M.out.2.1.below hb1).mono hLb
  have u7 : UV w1 base w.heap.size B4 n4 c4 us B5 n5 c5 ys := ⟨(M.out.2.2.1.below hb1).box, (M.out.2.2.1.below hb1).p.mono hLb, (M.out.2.2.1.below hb1).q.mono hLb⟩
  have bel := bThen M.out.2.2.2 hb1
  have DO := do_m pr.t fx fm
  obtain ⟨qs, cs, pts, q, hr⟩ : ∃ qs cs pts q, doM ps xs (cns ks) = (qs, cs, pts, q) := ⟨_, _, _, _, rfl⟩
  rw [hr] at DO
  have DO := Lib.hid DO
  have S1 := Lib.hid (And.intro pr (And.intro fx (And.intro fm (And.intro u7 (And.intro bel (And.intro hr hLb))))))
  clear pr ham hb1 hr fx fm u7 bel hbase hLb
  go_wp2_with (fail)
  refine DO.out.mono ?_
  rintro e w2 ⟨A, m1, d1, vs, A2, m2, d2, rfl, hoP, hcs, hoQ, P', hT, hk, ho⟩
  simp only at hcs hoQ hT
  have l3 : Below w2.heap.size w2 (w2.alloc (.cells #[.slice A m1 d1, .slice A2 m2 d2] 25)) := (Below.refl _ _).alloc (Nat.le_refl _) _
  have o1 := ho.then l3
  have hS := Soft.tb S1.out.1.t o1
  have RD := rdo_m (S1.out.1.ref_after o1) S1.out.1.good (S1.out.2.1.soft hS) (S1.out.2.2.1.soft hS)
  rw [S1.out.2.2.2.2.2.1] at RD
  have RD := Lib.hid RD
  have u11 : UV (w2.alloc (.cells #[.slice A m1 d1, .slice A2 m2 d2] 25)) base w2.heap.size A m1 d1 vs A2 m2 d2 pts := ⟨heap_alloc_new w2 _, (OwnP.firm (x := ⟨A, m1, d1, vs⟩) hoP).below l3, (hoQ.firm _).below l3⟩
  have S2 := Lib.hid (And.intro o1 (And.intro u11 (And.intro (hT.below l3) (And.intro hk hcs))))
  clear hoP hcs hoQ hT hk ho l3 o1 hS u11
  go_wp2_with (fail)
  refine RD.out.mono ?_
  rintro e w3 ⟨E, e1, f1, zs, E2, e2, f2, rfl, hzP, hzc, hzQ, Q', hR, ho3, hk3⟩
  simp only at hzc hzQ hR
  have l4 : Below w3.heap.size w3 (w3.alloc (.cells #[.slice E e1 f1, .slice E2 e2 f2] 25)) := (Below.refl _ _).alloc (Nat.le_refl _) _
  have pr3 := (S1.out.1.next S2.out.1 S2.out.2.2.1 S2.out.2.2.2.1 ho3 hR hk3).below l4
  have bel3 := bThen (S1.out.2.2.2.2.1.trans (S1.out.1.frame S1.out.2.2.2.2.2.2 S2.out.1 ho3)) l4
  have u7 := (S1.out.2.2.2.1.move S1.out.1 S2.out.1 ho3).below l4
  have u11 := (S2.out.2.1.soft ((S1.out.1.ref_after S2.out.1).soft_of ho3)).below l4
  have u13 : UV (w3.alloc (.cells #[.slice E e1 f1, .slice E2 e2 f2] 25)) base w3.heap.size E e1 f1 zs E2 e2 f2 pts := ⟨heap_alloc_new w3 _, hzP.below l4, (hzQ.firm _).below l4⟩
  have SM := Lib.hid (rsameU_any (r := true) u11.p.arg u11.q u13.p.arg u13.q (decide_eq_true ⟨S2.out.2.2.2.2.trans hzc.symm, rfl⟩))
  have x0 := u11.c0
  have x1 := u11.c1
  have y0 := u13.c0
  have y1 := u13.c1
  have S3 := Lib.hid (And.intro pr3 (And.intro bel3 (And.intro u7 (And.intro u11 (And.intro u13 hzc)))))
  clear hzP hzc hzQ hR ho3 hk3 l4 pr3 bel3 u7 u11 u13
  go_wp2_with (fail)
  refine SM.out.mono ?_
  rintro e w4 ⟨rfl, hb4⟩
  have AL := Lib.hid (alike25_any (S3.out.1.t.below hb4) (S3.out.1.r.below hb4))
  have S4 := Lib.hid (And.intro (S3.out.1.below hb4) (And.intro (bThen S3.out.2.1 hb4) (And.intro (S3.out.2.2.1.below hb4) (And.intro (S3.out.2.2.2.1.below hb4) (S3.out.2.2.2.2.1.below hb4)))))
  have dq : (q == q) = true := beq_self_eq_true _
  have dq2 : (q != q) = false := bne_self_eq_false _
  clear hb4 x0 x1 y0 y1
  go_wp2_with (fail)
  refine AL.out.mono ?_
  rintro e w5 ⟨rfl, hb5⟩
  have bd := hb5.drew
  have pr5 := S4.out.1.below bd
  have u7 := S4.out.2.2.1.below bd
  have u11 := S4.out.2.2.2.1.below bd
  have u13 := S4.out.2.2.2.2.below bd
  have bel5 := bThen S4.out.2.1 bd
  obtain ⟨ps2, q2, hbk⟩ : ∃ ps2 q2, backM qs (cns us) ys = (ps2, q2) := ⟨_, _, rfl⟩
  have BK := back_m pr5.t u7.p u7.q
  have RB : ∀ w6, Only w5.drew w6 g P' → Calls Try.prog 52 #[ptr h, .agg #[.slice B4 n4 c4, .slice B5 n5 c5]] w6 fun e w' => rputEnd w6 w' e base h Q' (ps2, q2) := fun w6 ho => by
    have u := u7.mid pr5 ho
    have := rback_m (pr5.ref_after ho) pr5.good u.q u.p
    rwa [hbk] at this
  rw [hbk] at BK
  have BK := Lib.hid BK
  have RB := Lib.hid RB
  have SU := Lib.hid (fun w6 (ho : Only w5.drew w6 g P') => (u7.mid pr5 ho).st)
  have SV := Lib.hid (fun w6 w7 (ho : Only w5.drew w6 g P') (ho2 : Only w6 w7 h none) => (u7.move pr5 ho ho2).st)
  have hS1 := u7.st
  have S5 := Lib.hid (And.intro pr5 (And.intro u7 (And.intro u11 (And.intro u13 bel5))))
  clear hb5 bd pr5 u7 u11 u13 bel5 hbk
  go_wp2_with (fail)
  go_region_held3 (fun w' => StU w.heap.size (.slice B4 n4 c4) (.slice B5 n5 c5) w') (first | exact hS3 | exact hS2 | exact hS1)
    (first
      | (go_at_call 16; (with_reducible refine BK.out.mono ?_); rintro e w6 ⟨rfl, P6, hT6, hk6, ho6⟩; have hS2 : StU w.heap.size (.slice B4 n4 c4) (.slice B5 n5 c5) w6 := SU.out w6 ho6)
      | (go_at_call 52; (with_reducible refine (RB.out w6 ho6).mono ?_); rintro e w7 ⟨rfl, Q7, hR7, ho7, hk7⟩; have hS3 : StU w.heap.size (.slice B4 n4 c4) (.slice B5 n5 c5) w7 := SV.out w6 w7 ho6 ho7))
  rename_i hHeldX
  have pr7 := S5.out.1.next ho6 hT6 hk6 ho7 hR7 hk7
  have u11 := S5.out.2.2.1.move S5.out.1 ho6 ho7
  have u13 := S5.out.2.2.2.1.move S5.out.1 ho6 ho7
  have bel7 := S5.out.2.2.2.2.trans (S5.out.1.frame S1.out.2.2.2.2.2.2 ho6 ho7)
  have AL7 := Lib.hid (alike25_any pr7.t pr7.r)
  have S7 := Lib.hid (And.intro pr7 (And.intro u11 (And.intro u13 bel7)))
  have dq3 : (q2 == q2) = true := beq_self_eq_true _
  have dq4 : (q2 != q2) = false := bne_self_eq_false _
  clear hHeldX hS1 hS2 hS3 hT6 hk6 ho6 hR7 ho7 hk7 pr7 u11 u13 bel7 BK RB SU SV AL
  go_wp2_with (fail)
  refine AL7.out.mono ?_
  rintro e w8 ⟨rfl, hb8⟩
  have bd := hb8.drew
  have pr8 := S7.out.1.below bd
  have u11 := S7.out.2.1.below bd
  have u13 := S7.out.2.2.1.below bd
  have bel8 := bThen S7.out.2.2.2 bd
  obtain ⟨ps3, q3, hbk⟩ : ∃ ps3 q3, backM ps2 cs pts = (ps3, q3) := ⟨_, _, rfl⟩
  have BK := back_m pr8.t u11.p u11.q
  have RB : ∀ w9, Only w8.drew w9 g P6 → Calls Try.prog 52 #[ptr h, .agg #[.slice E e1 f1, .slice E2 e2 f2]] w9 fun e w' => rputEnd w9 w' e base h Q7 (ps3, q3) := fun w9 ho => by
    have u := u13.mid pr8 ho
    have := rback_m (pr8.ref_after ho) pr8.good u.q u.p
    rwa [S3.out.2.2.2.2.2, hbk] at this
  rw [S2.out.2.2.2.2, hbk] at BK
  have BK := Lib.hid BK
  have RB := Lib.hid RB
  have SU := Lib.hid (fun w9 (ho : Only w8.drew w9 g P6) => And.intro (u11.mid pr8 ho).st (u13.mid pr8 ho).st)
  have SV := Lib.hid (fun w9 w10 (ho : Only w8.drew w9 g P6) (ho2 : Only w9 w10 h none) => And.intro (u11.move pr8 ho ho2).st (u13.move pr8 ho ho2).st)
  have hS1 : StU w2.heap.size (.slice A m1 d1) (.slice A2 m2 d2) w8.drew ∧ StU w3.heap.size (.slice E e1 f1) (.slice E2 e2 f2) w8.drew := ⟨u11.st, u13.st⟩
  have S8 := Lib.hid (And.intro pr8 bel8)
  clear hb8 bd pr8 u11 u13 bel8 hbk
  go_wp2_with (fail)
  go_region_held3 (fun w' => StU w2.heap.size (.slice A m1 d1) (.slice A2 m2 d2) w' ∧ StU w3.heap.size (.slice E e1 f1) (.slice E2 e2 f2) w') (first | exact hS3 | exact hS2 | exact hS1)
    (first
      | (go_at_call 16; (with_reducible refine BK.out.mono ?_); rintro e w9 ⟨rfl, P9, hT9, hk9, ho9⟩; have hS2 : StU w2.heap.size (.slice A m1 d1) (.slice A2 m2 d2) w9 ∧ StU w3.heap.size (.slice E e1 f1) (.slice E2 e2 f2) w9 := SU.out w9 ho9)
      | (go_at_call 52; (with_reducible refine (RB.out w9 ho9).mono ?_); rintro e w10 ⟨rfl, Q10, hR10, ho10, hk10⟩; have hS3 : StU w2.heap.size (.slice A m1 d1) (.slice A2 m2 d2) w10 ∧ StU w3.heap.size (.slice E e1 f1) (.slice E2 e2 f2) w10 := SV.out w9 w10 ho9 ho10))
  rename_i hHeldX
  have pr10 := S8.out.1.next ho9 hT9 hk9 ho10 hR10 hk10
  have bel10 := S8.out.2.trans (S8.out.1.frame S1.out.2.2.2.2.2.2 ho9 ho10)
  have AL10 := Lib.hid (alike25_any pr10.t pr10.r)
  have B10 := Lib.hid bel10
  have dq5 : (q3 == q3) = true := beq_self_eq_true _
  clear hHeldX hS1 hS2 hS3 hT9 hk9 ho9 hR10 ho10 hk10 pr10 bel10 BK RB SU SV
  go_wp2_with (fail)
  refine AL10.out.mono ?_
  rintro e w11 ⟨rfl, hb11⟩
  have B11 := Lib.hid (bThen B10.out hb11)
  clear hb11
  go_wp2_with (fail)
  refine (works25_any _).mono ?_
  rintro e w12 ⟨rfl, hb12⟩
  have B12 := Lib.hid (bThen B11.out hb12)
  clear hb12
  go_wp2_with (fail)
  go_ret
  exact ⟨rfl, B12.out⟩
end Go.Proofs.Ytofclanljhfkiaa
