/- The walk of the statement CoinFresh. -/
import Derived.Test.YtejablcdpakgoaaCoinU
namespace Go.Proofs.Ytejablcdpakgoaa
open Go.RowKit Go.Proofs En Co
set_option linter.unusedVariables false
set_option linter.unusedSimpArgs false
attribute [local go_sem ↓] ld_point_eq ld_coin_eq ld_hash_eq st_point_eq st_coin_eq bd_point_eq bd_coin_eq eq_point_eq ne_point_eq al_coin_eq al_point_eq
attribute [local go_sem] ld_point_run ld_coin_run ld_hash_run st_point_run st_coin_run bd_point_zero bd_coin_zero bd_point_of bd_coin_of hash_at rowIs_34 rowIs_37 rowIs_both hasAt_both cellsAt_both eq_point_run ne_point_run guard_pt al_coin_run al_point_run al_coin_row al_point_row

/-- the last cell of a coin is written over -/
theorem lock_row {w : World} {g : Nat} {t : TypeId} {m : Cm} (hp : m.c.p.ok) (A : Option Addr) (k : Nat) (hg : w.heap[g]? = some (.cells (cc m).toArray t (0, 0))) :
    (w.setCell ⟨g, 36, none⟩ (.slice A m.c.l.length k)).heap[g]? = some (.cells (cc ⟨m.c, A, k⟩).toArray t (0, 0)) := by
  rw [heap_setCell_same w g 36 _ t _ hg]
  have hl := pc_length hp
  have e : (cc m).toArray.setIfInBounds 36 (.slice A m.c.l.length k) = (cc ⟨m.c, A, k⟩).toArray := by
    rw [List.setIfInBounds_toArray]
    congr 1
    unfold cc Cm.lk
    rw [List.set_append_right _ _ (by omega), hl]
    rfl
  rw [e]
theorem lock_cell {w : World} {g : Nat} {t : TypeId} {m : Cm} (hp : m.c.p.ok) (hg : w.heap[g]? = some (.cells (cc m).toArray t (0, 0))) : w.cell? ⟨g, 36, none⟩ = some (.slice m.A m.c.l.length m.k) := by
  rw [(row_cells hg 36).1]
  have := (cc_get hp).2.2
  simpa [Cm.lk] using this

set_option maxRecDepth 20000 in
set_option maxHeartbeats 4000000 in
theorem coinFresh_walk (m : Cm) (B : Option Addr) (nb cb : Nat) (b : List Int) (w : World)
    (hm' : m.ok w ∧ m.k ≤ 140737488351232) (hb' : Arg w B nb cb b ∧ cb ≤ 140737488351232) :
    Calls Try.prog 7 #[.agg (cc m).toArray, .slice B nb cb] w fun e w' => e = .returned (.bool true) ∧ Below w.heap.size w w' := by
  obtain ⟨hm, hmk⟩ := hm'
  obtain ⟨hb, hcb⟩ := hb'
  have lm1 := hm.arg.cap
  have lb1 := hb.cap
  obtain ⟨p, q, h1⟩ : ∃ p q, putCF m.c = (p, q) := ⟨_, _, rfl⟩
  have lp := putCF_len hm.c.p h1
  obtain ⟨d, nx, f, h2⟩ : ∃ d x q, getCF b 0 = (d, x, q) := ⟨_, _, _, rfl⟩
  obtain ⟨v, lo, ny, g, h3⟩ : ∃ v l x q, getOF b 0 = (v, l, x, q) := ⟨_, _, _, _, rfl⟩
  have kd := getCF_ok hb.isB 0
  rw [h2] at kd
  have md := getCF_len b 0
  rw [h2] at md
  have mo := getOF_len b 0
  rw [h3] at mo
  simp only at kd md mo
  have hbl : b.length = nb := by have := hb.rd.len; omega
  have L := Lib.hid (And.intro h1 (And.intro h2 h3))
  have dq : (q == q) = true := beq_self_eq_true _
  have df : (f == f) = true := beq_self_eq_true _
  have dg : (g == g) = true := beq_self_eq_true _
  have f0 := heap_alloc_new w (.cells (cc m).toArray 31)
  have bl0 : Below w.heap.size w (w.alloc (.cells (cc m).toArray 31)) := (Below.refl _ _).alloc (Nat.le_refl _) _
  obtain ⟨x0, y0⟩ := (coin_has hm.c.p f0).1
  have hs0 : (w.alloc (.cells (cc m).toArray 31)).heap.size = w.heap.size + 1 := by simp
  have sl1 := slot_self (w.alloc (.cells (cc m).toArray 31)) (.cells (cc zm).toArray 31) (cc m).toArray
  have f1 := kept f0 sl1
  have g1 := both_row (w.alloc (.cells (cc m).toArray 31)) (cc zm).toArray 31 (cc m).toArray
  have bl1 := bThen bl0 sl1
  have z1 := lock_cell hm.c.p f1
  have hok0 := cc_ok hm.c.p
  have hr1 := al_coin_row (w.alloc (.cells (cc m).toArray 31))
  clear h1 h2 h3 sl1 f0 bl0
  rw [hs0] at f1 g1 bl1 z1 hr1
  go_enter Try.func7, Try.ntmps7
  go_wp2_with (fail)
  refine (wide_any inf_b m.A m.c.l.length m.k m.c.l _ (hm.below bl1).arg.rd (by omega)).mono ?_
  rintro e w2 ⟨A2, rfl, ho2, hb2⟩
  have hs1 := (Array.getElem?_eq_some_iff.1 g1).1
  have hne : blk A2 ≠ some (w.heap.size + 1) := fun e => by have := (OwnN.lt ho2 _ e).1; omega
  have f2 := kept f1 hb2
  have g2 := kept g1 hb2
  have o2 := Own.setOther ho2 (p := ⟨w.heap.size + 1, 36, none⟩) hne (.slice A2 m.c.l.length (m.c.l.length + 3))
  have f3 := (Below.heap_setCell w2 ⟨w.heap.size + 1, 36, none⟩ (.slice A2 m.c.l.length (m.c.l.length + 3)) w.heap.size (by show w.heap.size ≠ w.heap.size + 1; omega)).trans f2
  have g3 := lock_row hm.c.p A2 (m.c.l.length + 3) g2
  have bl3 := (bThen bl1 hb2).setCell (p := ⟨w.heap.size + 1, 36, none⟩) (by show w.heap.size ≤ w.heap.size + 1; omega) (.slice A2 m.c.l.length (m.c.l.length + 3))
  have hm3 : Cm.ok _ ⟨m.c, A2, m.c.l.length + 3⟩ := ⟨hm.c, wide_arg o2 hm.c.l rfl (by show m.c.l.length ≤ _; omega)⟩
  have rA := OwnN.rd o2
  have z2 := lock_cell hm.c.p g2
  have z2f := (row_cells g2 36).2
  obtain ⟨x3, y3⟩ := (coin_has (m := ⟨m.c, A2, m.c.l.length + 3⟩) hm.c.p g3).1
  clear ho2 hne hb2 f1 g1 f2 g2 hs1 x0 y0 hs0 z1 hr1 o2
  go_wp2_with (fail)
  refine (put06_is hm3 L.out.1).mono ?_
  rintro e w4 ⟨A4, c4, rfl, ho4, hb4⟩
  have hc4 := Own.len_cap ho4
  clear x3 y3 z2 z2f
  go_wp2_with (fail)
  refine (spoil_any A4 _ c4 _ p 1 _ ho4 hb4.size hc4.2).mono ?_
  rintro e w5 ⟨rfl, b5, _⟩
  have b5 := hb4.trans b5
  have bl5 := bThen bl3 b5
  have hz := bl5.size
  have f3 := kept f3 b5
  have g3 := kept g3 b5
  have rA := rA.below b5
  clear b5 hb4 ho4 hc4 hm3
  go_wp2_with (fail)
  refine (wide_any inf_b B nb cb b _ (hb.below bl5).rd (by omega)).mono ?_
  rintro e w6 ⟨A6, rfl, ho6, hb6⟩
  have ar6 := wide_arg ho6 hb.isB hbl (by omega)
  have rB := OwnN.rd ho6
  have bl6 := bThen bl5 hb6
  have hz := bl6.size
  have f3 := kept f3 hb6
  have g3 := kept g3 hb6
  have rA := rA.below hb6
  clear ho6 hb6
  go_wp2_with (fail)
  refine (getC_is ar6 (by omega) L.out.2.1).mono ?_
  rintro e w7 ⟨A7, c7, rfl, ho7, hb7⟩
  have hc7 := Own.len_cap ho7
  have hok7 := cc_ok (m := ⟨d, A7, c7⟩) kd.p
  have sl7 := slot_self w7 (.cells (cc zm).toArray 31) (cc ⟨d, A7, c7⟩).toArray
  have z7 := lock_cell (m := ⟨d, A7, c7⟩) kd.p (both_row w7 (cc zm).toArray 31 (cc ⟨d, A7, c7⟩).toArray)
  have o7 := OwnN.below ho7 sl7
  have hz7 := Nat.le_trans hb7.size sl7.size
  go_wp2_with (fail)
  refine (spoil_any A7 _ c7 w6.heap.size d.l 1 _ o7 hz7 hc7.2).mono ?_
  rintro e w8 ⟨rfl, b8, _⟩
  have b8 := (hb7.trans (sl7.mono hb7.size)).trans b8
  have bl8 := bThen bl6 b8
  have hz := bl8.size
  have f3 := kept f3 b8
  have g3 := kept g3 b8
  have rA := rA.below b8
  have rB := rB.below b8
  have ar6 := ar6.below b8
  clear b8 hb7 ho7 hc7 hok7 sl7 z7 o7 hz7
  go_wp2_with (fail)
  refine (getOut_is ar6 (by omega) L.out.2.2).mono ?_
  rintro e w9 ⟨A9, c9, rfl, ho9, hb9⟩
  have hc9 := Own.len_cap ho9
  have sl9 : Below w9.heap.size w9 (w9.alloc (.cells #[.int .u64 v, .slice A9 lo.length c9] 42)) := (Below.refl _ _).alloc (Nat.le_refl _) _
  have z9 : (w9.alloc (.cells #[.int .u64 v, .slice A9 lo.length c9] 42)).cell? ⟨w9.heap.size, 1, none⟩ = some (.slice A9 lo.length c9) := (row_cells (heap_alloc_new w9 _) 1).1
  have o9 := OwnN.below ho9 sl9
  have hz9 := Nat.le_trans hb9.size sl9.size
  go_wp2_with (fail)
  refine (spoil_any A9 _ c9 w8.heap.size lo 1 _ o9 hz9 hc9.2).mono ?_
  rintro e w10 ⟨rfl, b10, _⟩
  have b10 := (hb9.trans (sl9.mono hb9.size)).trans b10
  have bl10 := bThen bl8 b10
  have hz := bl10.size
  have f3 := kept f3 b10
  have g3 := kept g3 b10
  have rA := rA.below b10
  have rB := rB.below b10
  clear b10 hb9 ho9 hc9 sl9 z9 o9 hz9 ar6
  go_wp2_with (fail)
  refine (rgetC_is (hb.below bl10) (by omega) L.out.2.1).mono ?_
  rintro e w11 ⟨A11, c11, rfl, ho11, hb11⟩
  have hok11 := cc_ok (m := ⟨d, A11, c11⟩) kd.p
  have sl11 := slot_self w11 (.cells (cc zm).toArray 31) (cc ⟨d, A11, c11⟩).toArray
  have b11 := bThen hb11 sl11
  have bl11 := bThen bl10 b11
  have hz := bl11.size
  have f3 := kept f3 b11
  have g3 := kept g3 b11
  have rA := rA.below b11
  have rB := rB.below b11
  clear b11 hb11 ho11 sl11
  go_wp2_with (fail)
  refine (rgetOut_is (hb.below bl11) (by omega) L.out.2.2).mono ?_
  rintro e w12 ⟨A12, c12, rfl, ho12, hb12⟩
  have sl12 : Below w12.heap.size w12 (w12.alloc (.cells #[.int .u64 v, .slice A12 lo.length c12] 42)) := (Below.refl _ _).alloc (Nat.le_refl _) _
  have b12 := bThen hb12 sl12
  have bl12 := bThen bl11 b12
  have hz := bl12.size
  have f3 := kept f3 b12
  have g3 := kept g3 b12
  have rA := rA.below b12
  have rB := rB.below b12
  obtain ⟨x12, y12⟩ := (coin_has hm.c.p f3).1
  clear b12 hb12 ho12 sl12 hok11
  go_wp2_with (fail)
  refine (put06_is (hm.below bl12) L.out.1).mono ?_
  rintro e w13 ⟨A13, c13, rfl, ho13, hb13⟩
  have r13 := OwnN.rd ho13
  have bl13 := bThen bl12 hb13
  have hz := bl13.size
  have f3 := kept f3 hb13
  have g3 := kept g3 hb13
  have rA := rA.below hb13
  have rB := rB.below hb13
  clear hb13 ho13 x12 y12
  obtain ⟨x13, y13⟩ := (coin_has hm.c.p f3).1
  go_wp2_with (fail)
  refine (rput06_is (hm.below bl13) L.out.1).mono ?_
  rintro e w14 ⟨A14, c14, rfl, ho14, hb14⟩
  have r14 := OwnN.rd ho14
  have bl14 := bThen bl13 hb14
  have hz := bl14.size
  have f3 := kept f3 hb14
  have g3 := kept g3 hb14
  have rA := rA.below hb14
  have rB := rB.below hb14
  have r13 := r13.below hb14
  clear hb14 ho14 x13 y13
  have z14 := lock_cell hm.c.p f3
  have z15 := lock_cell (m := ⟨m.c, A2, m.c.l.length + 3⟩) hm.c.p g3
  go_wp2_with (fail)
  refine (left_any A2 m.c.l.length m.A m.k m.c.l _ rA (hm.below bl14).arg.rd (by omega)).mono ?_
  rintro e w15 ⟨rfl, hb15⟩
  have bl15 := bThen bl14 hb15
  have hz := bl15.size
  have rB := rB.below hb15
  have r13 := r13.below hb15
  have r14 := r14.below hb15
  clear hb15 f3 g3 z14 z15 rA
  go_wp2_with (fail)
  refine (left_any A6 nb B cb b _ rB (hb.below bl15).rd (by omega)).mono ?_
  rintro e w16 ⟨rfl, hb16⟩
  have bl16 := bThen bl15 hb16
  have hz := bl16.size
  have r13 := r13.below hb16
  have r14 := r14.below hb16
  clear hb16 rB
  go_wp2_with (fail)
  refine (same_is (r := true) r13 r14 (by omega) (decide_eq_true rfl)).mono ?_
  rintro e w17 ⟨rfl, hb17⟩
  have bl17 := bThen bl16 hb17
  have hz := bl17.size
  clear hb17 r13 r14
  go_wp2_with (fail)
  refine (works06_any _).mono ?_
  rintro e w18 ⟨rfl, hb18⟩
  have bl18 := bThen bl17 hb18
  clear hb18
  go_wp2_with (fail)
  go_ret
  exact ⟨rfl, bl18⟩
end Go.Proofs.Ytejablcdpakgoaa
