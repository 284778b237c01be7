/- The walk of the statement CoinGets. -/
import Derived.Test.YtejablcdpakgoaaCoinT
import Derived.Test.YtejablcdpakgoaaCoinV
namespace Go.Proofs.Ytejablcdpakgoaa
open Go.RowKit Go.Proofs En Co
set_option linter.unusedVariables false
set_option linter.unusedSimpArgs false
attribute [local go_sem ↓] ld_point_eq ld_coin_eq ld_hash_eq st_point_eq st_coin_eq bd_point_eq bd_coin_eq eq_point_eq ne_point_eq al_coin_eq al_point_eq
attribute [local go_sem] ld_point_run ld_coin_run ld_hash_run st_point_run st_coin_run bd_point_zero bd_coin_zero bd_point_of bd_coin_of hash_at rowIs_34 rowIs_37 rowIs_both hasAt_both cellsAt_both eq_point_run ne_point_run guard_pt al_coin_run al_point_run al_coin_row al_point_row

theorem kept {w w' : World} {g : Nat} {o : Obj} (h : w.heap[g]? = some o) (hb : Below w.heap.size w w') : w'.heap[g]? = some o := (hb.block g (Array.getElem?_eq_some_iff.1 h).1).trans h
theorem slot_self (w : World) (o : Obj) (cs : Array Value) : Below w.heap.size w ((w.alloc o).setRow w.heap.size cs) := below_slot (Below.refl _ _) (Nat.le_refl _) o cs
theorem slot2_self (w : World) (o : Obj) (u v : Value) : Below w.heap.size w (((w.alloc o).setCell ⟨w.heap.size, 0, none⟩ u).setCell ⟨w.heap.size, 1, none⟩ v) :=
  (((Below.refl w.heap.size w).alloc (Nat.le_refl _) o).setCell (Nat.le_refl _) u).setCell (Nat.le_refl _) v
theorem slot2_row (w : World) (T : TypeId) (x y u v : Value) : (((w.alloc (.cells #[x, y] T)).setCell ⟨w.heap.size, 0, none⟩ u).setCell ⟨w.heap.size, 1, none⟩ v).heap[w.heap.size]? = some (.cells #[u, v] T (0, 0)) :=
  heap_setCell_same _ _ 1 _ _ v (heap_setCell_same _ _ 0 _ _ u (heap_alloc_new w _))
theorem cm_of {w : World} {base : Nat} {A : Option Addr} {k : Nat} {d : Cn} (hd : d.ok) (hl : d.l.length ≤ 100) (ho : OwnB w base A d.l.length k d.l) : Cm.ok w ⟨d, A, k⟩ :=
  ⟨hd, ho.rd, hd.l, (Own.len_cap ho).1, (Own.len_cap ho).2, by show d.l.length ≤ _; omega⟩
theorem readCF_len (b : List Int) : (readCF b).1.l.length ≤ 100 := by
  unfold readCF
  split
  · split
    · exact Nat.zero_le _
    · exact getCF_len b 0
  · exact Nat.zero_le _
theorem getOF_len (b : List Int) (at_ : Int) : (getOF b at_).2.1.length ≤ 100 := by
  unfold getOF
  split
  · split
    · exact getRowF_small (b := b) (at_ := at_ + 8) (nx := (getRowF b (at_ + 8) 100).2.1) (q := (getRowF b (at_ + 8) 100).2.2) rfl
    · exact Nat.zero_le _
  · exact Nat.zero_le _

set_option maxRecDepth 20000 in
set_option maxHeartbeats 4000000 in
theorem coinGets_walk (A : Option Addr) (n c : Nat) (b : List Int) (at_ : Int) (w : World) (hb' : Arg w A n c b ∧ c ≤ 140737488351232) (ha : -9223372036854775808 ≤ at_ ∧ at_ ≤ 9223372036854775807) :
    Calls Try.prog 6 #[.slice A n c, .int .i64 at_] w fun e w' => e = .returned (.bool true) ∧ Below w.heap.size w w' := by
  obtain ⟨hb, _⟩ := hb'
  obtain ⟨pt, nx1, e1, h1⟩ : ∃ p x q, getPF b at_ = (p, x, q) := ⟨_, _, _, rfl⟩
  obtain ⟨v, l, nx2, e2, h2⟩ : ∃ v l x q, getOF b at_ = (v, l, x, q) := ⟨_, _, _, _, rfl⟩
  obtain ⟨d, nx3, e3, h3⟩ : ∃ p x q, getCF b at_ = (p, x, q) := ⟨_, _, _, rfl⟩
  obtain ⟨r, e4, h4⟩ : ∃ p q, readCF b = (p, q) := ⟨_, _, rfl⟩
  have k1 := getPF_pt hb.isB at_
  rw [h1] at k1
  have k3 := getCF_ok hb.isB at_
  rw [h3] at k3
  have k4 := readCF_ok hb.isB
  rw [h4] at k4
  have m2 := getOF_len b at_
  rw [h2] at m2
  have m3 := getCF_len b at_
  rw [h3] at m3
  have m4 := readCF_len b
  rw [h4] at m4
  simp only at k1 k3 k4 m2 m3 m4
  have L := Lib.hid (And.intro h1 (And.intro h2 (And.intro h3 h4)))
  have hok1 := pc_ok k1
  have hokp : okPts (pc pt).toArray (pc pt).toArray := ⟨pt, pt, k1, k1, rfl, rfl⟩
  have heq : eqB (pc pt).toArray (pc pt).toArray = true := by rw [eqB_pc k1 k1]; exact decide_eq_true rfl
  have dn1 : (nx1 == nx1) = true := beq_self_eq_true _
  have dn2 : (nx2 == nx2) = true := beq_self_eq_true _
  have dn3 : (nx3 == nx3) = true := beq_self_eq_true _
  have de1 : (e1 == e1) = true := beq_self_eq_true _
  have de2 : (e2 == e2) = true := beq_self_eq_true _
  have de3 : (e3 == e3) = true := beq_self_eq_true _
  have de4 : (e4 == e4) = true := beq_self_eq_true _
  have dv : (v == v) = true := beq_self_eq_true _
  clear h1 h2 h3 h4
  go_enter Try.func6, Try.ntmps6
  go_wp2_with (fail)
  refine (getPoint_is hb ha L.out.1).mono ?_
  rintro e w1 ⟨rfl, bl1⟩
  have hz1 := bl1.size
  go_wp2_with (fail)
  refine (rgetPoint_is (hb.below (bThen bl1 (slot_self w1 _ _))) ha L.out.1).mono ?_
  rintro e w2 ⟨rfl, hb2⟩
  have bl2 := bThen (bThen bl1 (slot_self w1 _ _)) hb2
  have f1 := kept (both_row w1 _ _ _) hb2
  have hz2 := bl2.size
  clear hb2
  go_wp2_with (fail)
  refine (getOut_is (hb.below (bThen bl2 (slot_self w2 _ _))) ha L.out.2.1).mono ?_
  rintro e w3 ⟨A3, c3, rfl, ho3, hb3⟩
  have bl3 := bThen (bThen bl2 (slot_self w2 _ _)) hb3
  have f2 := kept (both_row w2 _ _ _) hb3
  have f1 := kept (kept f1 (slot_self w2 _ _)) hb3
  have o3 := ho3.rd
  have hz3 := bl3.size
  clear hb3
  go_wp2_with (fail)
  refine (rgetOut_is (hb.below (bThen bl3 ((Below.refl w3.heap.size w3).alloc (Nat.le_refl _) _))) ha L.out.2.1).mono ?_
  rintro e w4 ⟨A4, c4, rfl, ho4, hb4⟩
  have bl4 := bThen (bThen bl3 ((Below.refl w3.heap.size w3).alloc (Nat.le_refl _) _)) hb4
  have f3 := kept (heap_alloc_new w3 _) hb4
  have f1 := kept (kept f1 ((Below.refl w3.heap.size w3).alloc (Nat.le_refl _) _)) hb4
  have f2 := kept (kept f2 ((Below.refl w3.heap.size w3).alloc (Nat.le_refl _) _)) hb4
  have o3 := (o3.below ((Below.refl w3.heap.size w3).alloc (Nat.le_refl _) _)).below hb4
  have o4 := ho4.rd
  have hz4 := bl4.size
  clear hb4
  go_wp2_with (fail)
  refine (getC_is (hb.below (bThen bl4 ((Below.refl w4.heap.size w4).alloc (Nat.le_refl _) _))) ha L.out.2.2.1).mono ?_
  rintro e w5 ⟨A5, c5, rfl, ho5, hb5⟩
  have bl5 := bThen (bThen bl4 ((Below.refl w4.heap.size w4).alloc (Nat.le_refl _) _)) hb5
  have f4 := kept (heap_alloc_new w4 _) hb5
  have f1 := kept (kept f1 ((Below.refl w4.heap.size w4).alloc (Nat.le_refl _) _)) hb5
  have f2 := kept (kept f2 ((Below.refl w4.heap.size w4).alloc (Nat.le_refl _) _)) hb5
  have f3 := kept (kept f3 ((Below.refl w4.heap.size w4).alloc (Nat.le_refl _) _)) hb5
  have o3 := (o3.below ((Below.refl w4.heap.size w4).alloc (Nat.le_refl _) _)).below hb5
  have o4 := (o4.below ((Below.refl w4.heap.size w4).alloc (Nat.le_refl _) _)).below hb5
  have hz5 := bl5.size
  clear hb5
  have g5 := cm_of k3 m3 ho5
  have hok5 := cc_ok (m := ⟨d, A5, c5⟩) k3.p
  clear ho5
  go_wp2_with (fail)
  refine (rgetC_is (hb.below (bThen bl5 (slot_self w5 _ _))) ha L.out.2.2.1).mono ?_
  rintro e w6 ⟨A6, c6, rfl, ho6, hb6⟩
  have bl6 := bThen (bThen bl5 (slot_self w5 _ _)) hb6
  have f5 := kept (both_row w5 _ _ _) hb6
  have f1 := kept (kept f1 (slot_self w5 _ _)) hb6
  have f2 := kept (kept f2 (slot_self w5 _ _)) hb6
  have f3 := kept (kept f3 (slot_self w5 _ _)) hb6
  have f4 := kept (kept f4 (slot_self w5 _ _)) hb6
  have o3 := (o3.below (slot_self w5 _ _)).below hb6
  have o4 := (o4.below (slot_self w5 _ _)).below hb6
  have g5 := (g5.below (slot_self w5 _ _)).below hb6
  have hz6 := bl6.size
  clear hb6
  have g6 := cm_of k3 m3 ho6
  have hok6 := cc_ok (m := ⟨d, A6, c6⟩) k3.p
  clear ho6
  go_wp2_with (fail)
  refine (readC_is (hb.below (bThen bl6 (slot_self w6 _ _))) L.out.2.2.2).mono ?_
  rintro e w7 ⟨A7, c7, rfl, ho7, hb7⟩
  have bl7 := bThen (bThen bl6 (slot_self w6 _ _)) hb7
  have f6 := kept (both_row w6 _ _ _) hb7
  have f1 := kept (kept f1 (slot_self w6 _ _)) hb7
  have f2 := kept (kept f2 (slot_self w6 _ _)) hb7
  have f3 := kept (kept f3 (slot_self w6 _ _)) hb7
  have f4 := kept (kept f4 (slot_self w6 _ _)) hb7
  have f5 := kept (kept f5 (slot_self w6 _ _)) hb7
  have o3 := (o3.below (slot_self w6 _ _)).below hb7
  have o4 := (o4.below (slot_self w6 _ _)).below hb7
  have g5 := (g5.below (slot_self w6 _ _)).below hb7
  have g6 := (g6.below (slot_self w6 _ _)).below hb7
  have hz7 := bl7.size
  clear hb7
  have g7 := cm_of k4 m4 ho7
  have hok7 := cc_ok (m := ⟨r, A7, c7⟩) k4.p
  clear ho7
  go_wp2_with (fail)
  refine (rreadC_is (hb.below (bThen bl7 (slot_self w7 _ _))) L.out.2.2.2).mono ?_
  rintro e w8 ⟨A8, c8, rfl, ho8, hb8⟩
  have bl8 := bThen (bThen bl7 (slot_self w7 _ _)) hb8
  have f7 := kept (both_row w7 _ _ _) hb8
  have f1 := kept (kept f1 (slot_self w7 _ _)) hb8
  have f2 := kept (kept f2 (slot_self w7 _ _)) hb8
  have f3 := kept (kept f3 (slot_self w7 _ _)) hb8
  have f4 := kept (kept f4 (slot_self w7 _ _)) hb8
  have f5 := kept (kept f5 (slot_self w7 _ _)) hb8
  have f6 := kept (kept f6 (slot_self w7 _ _)) hb8
  have o3 := (o3.below (slot_self w7 _ _)).below hb8
  have o4 := (o4.below (slot_self w7 _ _)).below hb8
  have g5 := (g5.below (slot_self w7 _ _)).below hb8
  have g6 := (g6.below (slot_self w7 _ _)).below hb8
  have g7 := (g7.below (slot_self w7 _ _)).below hb8
  have hz8 := bl8.size
  clear hb8
  have g8 := cm_of k4 m4 ho8
  have hok8 := cc_ok (m := ⟨r, A8, c8⟩) k4.p
  clear ho8
  have bl9 : Below w.heap.size w ((w8.alloc (.cells (cc zm).toArray 31)).setRow w8.heap.size (cc ⟨r, A8, c8⟩).toArray) := bThen bl8 (slot_self w8 _ _)
  have q1 := kept f1 (slot_self w8 (.cells (cc zm).toArray 31) (cc ⟨r, A8, c8⟩).toArray)
  have q2 := kept f2 (slot_self w8 (.cells (cc zm).toArray 31) (cc ⟨r, A8, c8⟩).toArray)
  have q3 := kept f3 (slot_self w8 (.cells (cc zm).toArray 31) (cc ⟨r, A8, c8⟩).toArray)
  have q4 := kept f4 (slot_self w8 (.cells (cc zm).toArray 31) (cc ⟨r, A8, c8⟩).toArray)
  have H9 := Lib.hid (And.intro (kept f5 (slot_self w8 (.cells (cc zm).toArray 31) (cc ⟨r, A8, c8⟩).toArray)) (And.intro (kept f6 (slot_self w8 (.cells (cc zm).toArray 31) (cc ⟨r, A8, c8⟩).toArray)) (And.intro (kept f7 (slot_self w8 (.cells (cc zm).toArray 31) (cc ⟨r, A8, c8⟩).toArray)) (both_row w8 (cc zm).toArray 31 (cc ⟨r, A8, c8⟩).toArray))))
  have s3 := o3.below (slot_self w8 (.cells (cc zm).toArray 31) (cc ⟨r, A8, c8⟩).toArray)
  have s4 := o4.below (slot_self w8 (.cells (cc zm).toArray 31) (cc ⟨r, A8, c8⟩).toArray)
  have t5 := g5.below (slot_self w8 (.cells (cc zm).toArray 31) (cc ⟨r, A8, c8⟩).toArray)
  have t6 := g6.below (slot_self w8 (.cells (cc zm).toArray 31) (cc ⟨r, A8, c8⟩).toArray)
  have t7 := g7.below (slot_self w8 (.cells (cc zm).toArray 31) (cc ⟨r, A8, c8⟩).toArray)
  have t8 := g8.below (slot_self w8 (.cells (cc zm).toArray 31) (cc ⟨r, A8, c8⟩).toArray)
  clear f1 f2 f3 f4 f5 f6 f7 o3 o4 g5 g6 g7 g8 hok1 hok5 hok6 hok7
  obtain ⟨x1, y1⟩ := row_has k1 q1
  obtain ⟨x2, y2⟩ := row_has k1 q2
  have x3 := (row_cells q3 0).1
  have y3 := (row_cells q3 1).1
  have x4 := (row_cells q4 0).1
  have y4 := (row_cells q4 1).1
  have B9 := Lib.hid bl9
  clear q1 q2 q3 q4 bl9
  go_wp2_with (fail)
  refine (same_is (r := true) s3 s4 (by omega) (decide_eq_true rfl)).mono ?_
  rintro e w10 ⟨rfl, hb10⟩
  have bl10 := bThen B9.out hb10
  obtain ⟨x5, y5⟩ := (coin_has (m := ⟨d, A5, c5⟩) k3.p (kept H9.out.1 hb10)).1
  obtain ⟨x6, y6⟩ := (coin_has (m := ⟨d, A6, c6⟩) k3.p (kept H9.out.2.1 hb10)).1
  have H10 := Lib.hid (And.intro (kept H9.out.2.2.1 hb10) (kept H9.out.2.2.2 hb10))
  have u5 := t5.below hb10
  have u6 := t6.below hb10
  have u7 := t7.below hb10
  have u8 := t8.below hb10
  clear hb10 x1 y1 x2 y2 x3 y3 x4 y4 t5 t6 t7 t8 s3 s4 H9
  go_wp2_with (fail)
  refine (rsame06_is (r := true) u5 u6 (decide_eq_true rfl)).mono ?_
  rintro e w11 ⟨rfl, hb11⟩
  have bl11 := bThen bl10 hb11
  obtain ⟨x7, y7⟩ := (coin_has (m := ⟨r, A7, c7⟩) k4.p (kept H10.out.1 hb11)).1
  obtain ⟨x8, y8⟩ := (coin_has (m := ⟨r, A8, c8⟩) k4.p (kept H10.out.2 hb11)).1
  have v7 := u7.below hb11
  have v8 := u8.below hb11
  clear hb11 x5 y5 x6 y6 u5 u6 u7 u8 H10
  go_wp2_with (fail)
  refine (rsame06_is (r := true) v7 v8 (decide_eq_true rfl)).mono ?_
  rintro e w12 ⟨rfl, hb12⟩
  have bl12 := bThen bl11 hb12
  clear hb12 x7 y7 x8 y8 v7 v8
  go_wp2_with (fail)
  refine (works06_any _).mono ?_
  rintro e w13 ⟨rfl, hb13⟩
  have bl13 := bThen bl12 hb13
  clear hb13
  go_wp2_with (fail)
  go_ret
  exact ⟨rfl, bl13⟩
end Go.Proofs.Ytejablcdpakgoaa
