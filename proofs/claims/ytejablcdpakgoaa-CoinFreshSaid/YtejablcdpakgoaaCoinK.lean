/- What Get answers, in the program and in the reference. -/
import Derived.Test.YtejablcdpakgoaaCoinJ
namespace Go.Proofs.Ytejablcdpakgoaa
open Go.RowKit Go.Proofs En Co
set_option linter.unusedVariables false
set_option linter.unusedSimpArgs false
attribute [local go_sem ↓] ld_point_eq ld_coin_eq ld_hash_eq st_point_eq st_coin_eq bd_point_eq bd_coin_eq
attribute [local go_sem] ld_point_run ld_coin_run ld_hash_run st_point_run st_coin_run bd_point_zero bd_coin_zero bd_point_of bd_coin_of hash_at

theorem rowIs_new (w : World) (cs : Array Value) (T : TypeId) (n : Nat) (h : cs.size = n) : rowIs (w.alloc (.cells cs T)) w.heap.size n := ⟨cs, T, heap_alloc_new w _, h⟩
theorem rowIs_34 (w : World) (cs : Array Value) (T : TypeId) (h : cs.size = 34) : rowIs (w.alloc (.cells cs T)) w.heap.size 34 := rowIs_new w cs T 34 h
theorem rowIs_37 (w : World) (cs : Array Value) (T : TypeId) (h : cs.size = 37) : rowIs (w.alloc (.cells cs T)) w.heap.size 37 := rowIs_new w cs T 37 h
theorem rowIs.alloc {w : World} {b n : Nat} (h : rowIs w b n) (o : Obj) : rowIs (w.alloc o) b n := h.below ((Below.refl _ _).alloc (Nat.le_refl _) o)
theorem rowIs.setRow {w : World} {b n : Nat} (h : rowIs w b n) (c : Nat) (cs : Array Value) (hne : b ≠ c) : rowIs (w.setRow c cs) b n := by
  obtain ⟨old, t, hg, hs⟩ := h
  exact ⟨old, t, (setRow_other w c b _ hne).trans hg, hs⟩
theorem getPF_in {b : List Int} {at_ nx : Int} {p : Pt} (h : getPF b at_ = (p, nx, 0)) : 0 ≤ at_ ∧ at_ + 38 ≤ b.length ∧ nx = at_ + 38 := by
  unfold getPF at h
  split at h
  · rename_i h0
    obtain ⟨h1, _, h2, _⟩ := partF_ok h0
    injection h with _ h
    injection h with h _
    exact ⟨h1, h2, h.symm⟩
  · rename_i h0
    injection h with _ h
    injection h with _ h
    exact absurd h h0
theorem getPF_pt {b : List Int} (hB : IsB b) (at_ : Int) : (getPF b at_).1.ok := by
  unfold getPF
  split
  · rename_i h0
    have := partF_length h0
    exact ptF_ok (partF_isB hB _ _) (by omega)
  · exact zeroPt_ok
theorem getF1_bd {b : List Int} (hB : IsB b) {at_ x e : Int} (h : getF b at_ 1 = (x, e)) : 0 ≤ x ∧ x ≤ 255 := by
  have := getF_bound hB at_ 1
  rw [h] at this
  have h2 : x < 256 ^ 1 := this.2.1
  exact ⟨this.1, by omega⟩
theorem rowIs_alloc' (w : World) (b n : Nat) (o : Obj) (h : rowIs w b n) : rowIs (w.alloc o) b n := h.alloc o
theorem rowIs_setRow' (w : World) (b n c : Nat) (cs : Array Value) (h : rowIs w b n) (hne : b ≠ c) : rowIs (w.setRow c cs) b n := h.setRow c cs hne
theorem rd_coin_set {w : World} {b : Nat} {cs : Array Value} (h : rowIs w b 37) (hc : cs.size = 37) : (loadVar 31 ⟨b, 0, none⟩).run Try.prog (w.setRow b cs) = .ok (.agg cs) (w.setRow b cs) := by
  obtain ⟨t, hr⟩ := row_set h cs
  exact rd_coin _ _ _ _ hr hc
theorem rowIs_both (w : World) (b n c : Nat) (o : Obj) (cs : Array Value) (h : rowIs w b n) (hne : b ≠ c) : rowIs ((w.alloc o).setRow c cs) b n := (h.alloc o).setRow c cs hne
attribute [local go_sem] rowIs_34 rowIs_37 rowIs_both
/-- a row that another one was written beside -/
theorem row_kept {w : World} {g h : Nat} {o : Obj} (hg : w.heap[g]? = some o) (hne : g ≠ h) (cs : Array Value) : (w.setRow h cs).heap[g]? = some o := (setRow_other w h g _ hne).trans hg

set_option maxRecDepth 10000 in
set_option maxHeartbeats 2000000 in
theorem getC_any (A : Option Addr) (n c : Nat) (b : List Int) (at_ : Int) (w : World) (hb : Arg w A n c b) (ha : -9223372036854775808 ≤ at_ ∧ at_ ≤ 9223372036854775807) :
    Calls Try.prog 10 #[.slice A n c, .int .i64 at_] w fun e w' => ∃ A' k, e = .returned (.tuple #[.agg (cc ⟨(getCF b at_).1, A', k⟩).toArray, .int .i64 (getCF b at_).2.1, .int .i64 (getCF b at_).2.2]) ∧ OwnB w' w.heap.size A' (getCF b at_).1.l.length k (getCF b at_).1.l ∧ Below w.heap.size w w' := by
  have hlen := hb.rd.len
  have hn := hb.len
  have e46 : at_ + 46 = at_ + 38 + 8 := by omega
  have e47 : at_ + 47 = at_ + 38 + 8 + 1 := by omega
  obtain ⟨pt, nx, q, hp⟩ : ∃ pt nx q, getPF b at_ = (pt, nx, q) := ⟨_, _, _, rfl⟩
  have hpt := getPF_pt hb.isB at_
  rw [hp] at hpt
  have PT := fun w' (h : Arg w' A n c b) => getPoint_any A n c b at_ w' h ha
  rw [hp] at PT
  have PT := Lib.hid PT
  have hokP := pc_ok hpt
  have hokZ := cc_ok (m := ⟨zeroCn, none, 0⟩) zeroPt_ok
  simp only at hokP
  by_cases hq : q = 0
  · subst hq
    obtain ⟨hi1, hi2, rfl⟩ := getPF_in hp
    obtain ⟨x, e2, hv⟩ : ∃ x e, valueF b (at_ + 38) = (x, e) := ⟨_, _, rfl⟩
    have hxb := valueF_bd hb.isB (at_ + 38)
    rw [hv] at hxb
    have hxb0 : 0 ≤ x := hxb.1
    have i38 : at_ + 38 + 38 ≤ 9223372036854775807 := by omega
    by_cases he2 : e2 = 0
    · subst he2
      have hin := valueF_in hv
      have hin2 := hin.2.1
      have hx2 : x ≤ 1125899906842624 := hin.2.2
      obtain ⟨y, e3, hy⟩ : ∃ x e, getF b (at_ + 38 + 8) 1 = (x, e) := ⟨_, _, rfl⟩
      have hyb := getF1_bd hb.isB hy
      by_cases he3 : e3 = 0
      · subst he3
        by_cases hy1 : 1 < y
        · have hc : getCF b at_ = (zeroCn, 0, 5) := by unfold getCF; rw [hp, if_pos rfl, hv, if_pos rfl, e46, hy, if_pos rfl, if_pos hy1]
          rw [hc]
          have dy : decide (y > 1) = true := decide_eq_true hy1
          have V := Lib.hid (And.intro hv (And.intro hy trivial))
          clear hv hy hp hc e46 e47 
          go_enter Try.func10, Try.ntmps10
          go_wp2_with (fail)
          refine (PT.out _ (hb.below ((Below.refl w.heap.size w).alloc (Nat.le_refl _) _))).mono ?_
          rintro e w1 ⟨rfl, hb1⟩
          have hri : rowIs w1 w.heap.size 37 := (rowIs_of (heap_alloc_new w _) rfl).below hb1
          have hbl : Below w.heap.size w w1 := ((Below.refl w.heap.size w).alloc (Nat.le_refl _) _).trans (hb1.mono (by simp))
          have hz := hbl.size
          have hne : w.heap.size ≠ w1.heap.size := Nat.ne_of_lt hri.lt
          clear hb1
          go_wp2_with (fail)
          refine (value_is (hb.below (below_setRow (belA hbl _ (Nat.le_refl _)) hz (by simp; omega) _)) (by omega) V.out.1).mono ?_
          rintro e w2 ⟨rfl, hb2⟩
          have hri2 : rowIs w2 w.heap.size 37 := ((hri.alloc _).setRow w1.heap.size _ hne).below hb2
          have hpr2 := (hb2.block w1.heap.size (Array.getElem?_eq_some_iff.1 (setRow_heap _ w1.heap.size _ _ _ _ (heap_alloc_new w1 _))).1).trans (setRow_heap _ w1.heap.size _ _ _ _ (heap_alloc_new w1 _))
          have hbl2 : Below w.heap.size w w2 := bThen (below_setRow (belA hbl _ (Nat.le_refl _)) hz (by simp; omega) _) hb2
          have hz2 := hbl2.size
          clear hb2
          go_wp2_with (fail)
          refine (get_is (hb.below hbl2) (by omega) (by omega) V.out.2.1).mono ?_
          rintro e w3 ⟨rfl, hb3⟩
          have hri3 : rowIs w3 w.heap.size 37 := hri2.below hb3
          have hpr3 := (hb3.block w1.heap.size (Array.getElem?_eq_some_iff.1 hpr2).1).trans hpr2
          have hbl3 : Below w.heap.size w w3 := bThen hbl2 hb3
          have hz3 := hbl3.size
          clear hb3
          have hri := hri3
          have hbl := hbl3
          have hz := hbl.size
          obtain ⟨t, hrow⟩ := row_set hri (cc ⟨zeroCn, none, 0⟩).toArray
          have RW := Lib.hid hrow
          have BL := Lib.hid hbl
          clear hrow hbl
          go_wp2_with (fail)
          refine bodyPost_ret (res_cell3 Try.results10 rfl (rd_coin _ _ _ _ RW.out hokZ.1)) rfl ?_
          exact ⟨none, 0, rfl, OwnN.nil _ _ _ _, below_setRow BL.out (Nat.le_refl _) hz _⟩
        · have dy : decide (y > 1) = false := decide_eq_false hy1
          obtain ⟨r, hr⟩ : ∃ r, (y == 1) = r := ⟨_, rfl⟩
          have hr2 : decide (y = 1) = r := by rw [← hr]; cases h : (y == 1) <;> simp_all
          obtain ⟨l, nx2, e4, hl⟩ : ∃ p nx e, getRowF b (at_ + 38 + 8 + 1) 100 = (p, nx, e) := ⟨_, _, _, rfl⟩
          have hls := getRowF_small hl
          by_cases he4 : e4 = 0
          · subst he4
            have hc : getCF b at_ = (⟨pt, x, r, l⟩, nx2, 0) := by unfold getCF; rw [hp, if_pos rfl, hv, if_pos rfl, e46, hy, if_pos rfl, if_neg hy1, e47, hl, if_pos rfl, hr2]
            rw [hc]
            have V := Lib.hid (And.intro hv (And.intro hy (And.intro hl trivial)))
            clear hv hy hp hc e46 e47 hl hr2 
            have hsz := hokP.1
            go_enter Try.func10, Try.ntmps10
            go_wp2_with (fail)
            refine (PT.out _ (hb.below ((Below.refl w.heap.size w).alloc (Nat.le_refl _) _))).mono ?_
            rintro e w1 ⟨rfl, hb1⟩
            have hri : rowIs w1 w.heap.size 37 := (rowIs_of (heap_alloc_new w _) rfl).below hb1
            have hbl : Below w.heap.size w w1 := ((Below.refl w.heap.size w).alloc (Nat.le_refl _) _).trans (hb1.mono (by simp))
            have hz := hbl.size
            have hne : w.heap.size ≠ w1.heap.size := Nat.ne_of_lt hri.lt
            clear hb1
            go_wp2_with (fail)
            refine (value_is (hb.below (below_setRow (belA hbl _ (Nat.le_refl _)) hz (by simp; omega) _)) (by omega) V.out.1).mono ?_
            rintro e w2 ⟨rfl, hb2⟩
            have hri2 : rowIs w2 w.heap.size 37 := ((hri.alloc _).setRow w1.heap.size _ hne).below hb2
            have hpr2 := (hb2.block w1.heap.size (Array.getElem?_eq_some_iff.1 (setRow_heap _ w1.heap.size _ _ _ _ (heap_alloc_new w1 _))).1).trans (setRow_heap _ w1.heap.size _ _ _ _ (heap_alloc_new w1 _))
            have hbl2 : Below w.heap.size w w2 := bThen (below_setRow (belA hbl _ (Nat.le_refl _)) hz (by simp; omega) _) hb2
            have hz2 := hbl2.size
            clear hb2
            go_wp2_with (fail)
            refine (get_is (hb.below hbl2) (by omega) (by omega) V.out.2.1).mono ?_
            rintro e w3 ⟨rfl, hb3⟩
            have hri3 : rowIs w3 w.heap.size 37 := hri2.below hb3
            have hpr3 := (hb3.block w1.heap.size (Array.getElem?_eq_some_iff.1 hpr2).1).trans hpr2
            have hbl3 : Below w.heap.size w w3 := bThen hbl2 hb3
            have hz3 := hbl3.size
            clear hb3
            go_wp2_with (fail)
            refine (getRow_is (hb.below hbl3) (by omega) (by omega) V.out.2.2.1).mono ?_
            rintro e w4 ⟨A4, c4, rfl, ho4, hb4⟩
            have hri4 : rowIs w4 w.heap.size 37 := hri3.below hb4
            have hpr4 := (hb4.block w1.heap.size (Array.getElem?_eq_some_iff.1 hpr3).1).trans hpr3
            have hbl4 : Below w.heap.size w w4 := bThen hbl3 hb4
            have hz4 := hbl4.size
            have hown := OwnN.mono ho4 hz3
            have hlt4 := OwnN.lt ho4
            have hrng : w4.rangeAt w1.heap.size 0 (pc pt) := by
              intro j v hv
              rw [Nat.zero_add, (row_cells hpr4 j).1]
              simpa using hv
            have hh := hasAt_of hrng (pc_length hpt)
            have hcl := cellsAt_of hrng (pc_length hpt)
            have hmk := mkCn_cc ⟨⟨pt, x, r, l⟩, A4, c4⟩
            simp only at hmk
            have hokC := cc_ok (m := ⟨⟨pt, x, r, l⟩, A4, c4⟩) hpt
            obtain ⟨t, hrow⟩ := row_set hri4 (cc ⟨⟨pt, x, r, l⟩, A4, c4⟩).toArray
            have hown2 : OwnB (w4.setRow w.heap.size (cc ⟨⟨pt, x, r, l⟩, A4, c4⟩).toArray) w.heap.size A4 l.length c4 l :=
              Own.keep hown fun k hk => setRow_other _ _ _ _ (fun e => by have := (hlt4 k hk).1; have := hri3.lt; omega)
            have RW := Lib.hid (And.intro hrow hown2)
            have BL := Lib.hid hbl4
            clear hrow hbl4 hb4 ho4 hown hlt4 hrng hpr4 hpr3 hpr2 hown2
            go_wp2_with (fail)
            refine bodyPost_ret (res_cell3 Try.results10 rfl (rd_coin _ _ _ _ RW.out.1 hokC.1)) rfl ?_
            exact ⟨A4, c4, rfl, RW.out.2, below_setRow BL.out (Nat.le_refl _) hz4 _⟩
          · have hc : getCF b at_ = (zeroCn, 0, e4) := by unfold getCF; rw [hp, if_pos rfl, hv, if_pos rfl, e46, hy, if_pos rfl, if_neg hy1, e47, hl, if_neg he4]
            have hp0 : l = [] := by have := getRowF_err (b := b) (at_ := at_ + 38 + 8 + 1) (most := 100) (by rw [hl]; exact he4); rw [hl] at this; exact this
            subst hp0
            rw [hc]
            have d4 : (e4 != 0) = true := by rw [bne_iff_ne]; exact he4
            have V := Lib.hid (And.intro hv (And.intro hy (And.intro hl trivial)))
            clear hv hy hp hc e46 e47 hl hr2 he4 
            go_enter Try.func10, Try.ntmps10
            go_wp2_with (fail)
            refine (PT.out _ (hb.below ((Below.refl w.heap.size w).alloc (Nat.le_refl _) _))).mono ?_
            rintro e w1 ⟨rfl, hb1⟩
            have hri : rowIs w1 w.heap.size 37 := (rowIs_of (heap_alloc_new w _) rfl).below hb1
            have hbl : Below w.heap.size w w1 := ((Below.refl w.heap.size w).alloc (Nat.le_refl _) _).trans (hb1.mono (by simp))
            have hz := hbl.size
            have hne : w.heap.size ≠ w1.heap.size := Nat.ne_of_lt hri.lt
            clear hb1
            go_wp2_with (fail)
            refine (value_is (hb.below (below_setRow (belA hbl _ (Nat.le_refl _)) hz (by simp; omega) _)) (by omega) V.out.1).mono ?_
            rintro e w2 ⟨rfl, hb2⟩
            have hri2 : rowIs w2 w.heap.size 37 := ((hri.alloc _).setRow w1.heap.size _ hne).below hb2
            have hpr2 := (hb2.block w1.heap.size (Array.getElem?_eq_some_iff.1 (setRow_heap _ w1.heap.size _ _ _ _ (heap_alloc_new w1 _))).1).trans (setRow_heap _ w1.heap.size _ _ _ _ (heap_alloc_new w1 _))
            have hbl2 : Below w.heap.size w w2 := bThen (below_setRow (belA hbl _ (Nat.le_refl _)) hz (by simp; omega) _) hb2
            have hz2 := hbl2.size
            clear hb2
            go_wp2_with (fail)
            refine (get_is (hb.below hbl2) (by omega) (by omega) V.out.2.1).mono ?_
            rintro e w3 ⟨rfl, hb3⟩
            have hri3 : rowIs w3 w.heap.size 37 := hri2.below hb3
            have hpr3 := (hb3.block w1.heap.size (Array.getElem?_eq_some_iff.1 hpr2).1).trans hpr2
            have hbl3 : Below w.heap.size w w3 := bThen hbl2 hb3
            have hz3 := hbl3.size
            clear hb3
            go_wp2_with (fail)
            refine (getRow_is (hb.below hbl3) (by omega) (by omega) V.out.2.2.1).mono ?_
            rintro e w4 ⟨A4, c4, rfl, ho4, hb4⟩
            clear ho4
            have hri := hri3.below hb4
            have hbl := bThen hbl3 hb4
            have hz := hbl.size
            obtain ⟨t, hrow⟩ := row_set hri (cc ⟨zeroCn, none, 0⟩).toArray
            have RW := Lib.hid hrow
            have BL := Lib.hid hbl
            clear hrow hbl
            go_wp2_with (fail)
            refine bodyPost_ret (res_cell3 Try.results10 rfl (rd_coin _ _ _ _ RW.out hokZ.1)) rfl ?_
            exact ⟨none, 0, rfl, OwnN.nil _ _ _ _, below_setRow BL.out (Nat.le_refl _) hz _⟩
      · have hc : getCF b at_ = (zeroCn, 0, e3) := by unfold getCF; rw [hp, if_pos rfl, hv, if_pos rfl, e46, hy, if_neg he3]
        rw [hc]
        have d3 : (e3 != 0) = true := by rw [bne_iff_ne]; exact he3
        have d3' : (e3 == 0) = false := beq_eq_false_iff_ne.2 he3
        have V := Lib.hid (And.intro hv (And.intro hy trivial))
        clear hv hy hp hc e46 e47 he3 
        go_enter Try.func10, Try.ntmps10
        go_wp2_with (fail)
        refine (PT.out _ (hb.below ((Below.refl w.heap.size w).alloc (Nat.le_refl _) _))).mono ?_
        rintro e w1 ⟨rfl, hb1⟩
        have hri : rowIs w1 w.heap.size 37 := (rowIs_of (heap_alloc_new w _) rfl).below hb1
        have hbl : Below w.heap.size w w1 := ((Below.refl w.heap.size w).alloc (Nat.le_refl _) _).trans (hb1.mono (by simp))
        have hz := hbl.size
        have hne : w.heap.size ≠ w1.heap.size := Nat.ne_of_lt hri.lt
        clear hb1
        go_wp2_with (fail)
        refine (value_is (hb.below (below_setRow (belA hbl _ (Nat.le_refl _)) hz (by simp; omega) _)) (by omega) V.out.1).mono ?_
        rintro e w2 ⟨rfl, hb2⟩
        have hri2 : rowIs w2 w.heap.size 37 := ((hri.alloc _).setRow w1.heap.size _ hne).below hb2
        have hpr2 := (hb2.block w1.heap.size (Array.getElem?_eq_some_iff.1 (setRow_heap _ w1.heap.size _ _ _ _ (heap_alloc_new w1 _))).1).trans (setRow_heap _ w1.heap.size _ _ _ _ (heap_alloc_new w1 _))
        have hbl2 : Below w.heap.size w w2 := bThen (below_setRow (belA hbl _ (Nat.le_refl _)) hz (by simp; omega) _) hb2
        have hz2 := hbl2.size
        clear hb2
        go_wp2_with (fail)
        refine (get_is (hb.below hbl2) (by omega) (by omega) V.out.2.1).mono ?_
        rintro e w3 ⟨rfl, hb3⟩
        have hri3 : rowIs w3 w.heap.size 37 := hri2.below hb3
        have hpr3 := (hb3.block w1.heap.size (Array.getElem?_eq_some_iff.1 hpr2).1).trans hpr2
        have hbl3 : Below w.heap.size w w3 := bThen hbl2 hb3
        have hz3 := hbl3.size
        clear hb3
        have hri := hri3
        have hbl := hbl3
        have hz := hbl.size
        obtain ⟨t, hrow⟩ := row_set hri (cc ⟨zeroCn, none, 0⟩).toArray
        have RW := Lib.hid hrow
        have BL := Lib.hid hbl
        clear hrow hbl
        go_wp2_with (fail)
        refine bodyPost_ret (res_cell3 Try.results10 rfl (rd_coin _ _ _ _ RW.out hokZ.1)) rfl ?_
        exact ⟨none, 0, rfl, OwnN.nil _ _ _ _, below_setRow BL.out (Nat.le_refl _) hz _⟩
    · have hc : getCF b at_ = (zeroCn, 0, e2) := by unfold getCF; rw [hp, if_pos rfl, hv, if_neg he2]
      rw [hc]
      have d2 : (e2 != 0) = true := by rw [bne_iff_ne]; exact he2
      have V := Lib.hid (And.intro hv trivial)
      clear hv hp hc e46 e47 he2
      go_enter Try.func10, Try.ntmps10
      go_wp2_with (fail)
      refine (PT.out _ (hb.below ((Below.refl w.heap.size w).alloc (Nat.le_refl _) _))).mono ?_
      rintro e w1 ⟨rfl, hb1⟩
      have hri : rowIs w1 w.heap.size 37 := (rowIs_of (heap_alloc_new w _) rfl).below hb1
      have hbl : Below w.heap.size w w1 := ((Below.refl w.heap.size w).alloc (Nat.le_refl _) _).trans (hb1.mono (by simp))
      have hz := hbl.size
      have hne : w.heap.size ≠ w1.heap.size := Nat.ne_of_lt hri.lt
      clear hb1
      go_wp2_with (fail)
      refine (value_is (hb.below (below_setRow (belA hbl _ (Nat.le_refl _)) hz (by simp; omega) _)) (by omega) V.out.1).mono ?_
      rintro e w2 ⟨rfl, hb2⟩
      have hri2 : rowIs w2 w.heap.size 37 := ((hri.alloc _).setRow w1.heap.size _ hne).below hb2
      have hpr2 := (hb2.block w1.heap.size (Array.getElem?_eq_some_iff.1 (setRow_heap _ w1.heap.size _ _ _ _ (heap_alloc_new w1 _))).1).trans (setRow_heap _ w1.heap.size _ _ _ _ (heap_alloc_new w1 _))
      have hbl2 : Below w.heap.size w w2 := bThen (below_setRow (belA hbl _ (Nat.le_refl _)) hz (by simp; omega) _) hb2
      have hz2 := hbl2.size
      clear hb2
      have hri := hri2
      have hbl := hbl2
      have hz := hbl.size
      obtain ⟨t, hrow⟩ := row_set hri (cc ⟨zeroCn, none, 0⟩).toArray
      have RW := Lib.hid hrow
      have BL := Lib.hid hbl
      clear hrow hbl
      go_wp2_with (fail)
      refine bodyPost_ret (res_cell3 Try.results10 rfl (rd_coin _ _ _ _ RW.out hokZ.1)) rfl ?_
      exact ⟨none, 0, rfl, OwnN.nil _ _ _ _, below_setRow BL.out (Nat.le_refl _) hz _⟩

  · have hc : getCF b at_ = (zeroCn, 0, q) := by unfold getCF; rw [hp, if_neg hq]
    rw [hc]
    have d1 : (q != 0) = true := by rw [bne_iff_ne]; exact hq
    clear hp hc e46 e47 hq
    go_enter Try.func10, Try.ntmps10
    go_wp2_with (fail)
    refine (PT.out _ (hb.below ((Below.refl w.heap.size w).alloc (Nat.le_refl _) _))).mono ?_
    rintro e w1 ⟨rfl, hb1⟩
    have hri : rowIs w1 w.heap.size 37 := (rowIs_of (heap_alloc_new w _) rfl).below hb1
    have hbl : Below w.heap.size w w1 := ((Below.refl w.heap.size w).alloc (Nat.le_refl _) _).trans (hb1.mono (by simp))
    have hz := hbl.size
    have hne : w.heap.size ≠ w1.heap.size := Nat.ne_of_lt hri.lt
    clear hb1
    go_wp2_with (fail)
    refine bodyPost_ret (res_cell3 Try.results10 rfl (rd_coin_set ((hri.alloc _).setRow w1.heap.size _ hne) hokZ.1)) rfl ?_
    exact ⟨none, 0, rfl, OwnN.nil _ _ _ _, below_setRow (below_setRow (belA hbl _ (Nat.le_refl _)) hz (by simp; omega) _) (Nat.le_refl _) (by simp; omega) _⟩

set_option maxRecDepth 10000 in
set_option maxHeartbeats 2000000 in
theorem rgetC_any (A : Option Addr) (n c : Nat) (b : List Int) (at_ : Int) (w : World) (hb : Arg w A n c b) (ha : -9223372036854775808 ≤ at_ ∧ at_ ≤ 9223372036854775807) :
    Calls Try.prog 24 #[.slice A n c, .int .i64 at_] w fun e w' => ∃ A' k, e = .returned (.tuple #[.agg (cc ⟨(getCF b at_).1, A', k⟩).toArray, .int .i64 (getCF b at_).2.1, .int .i64 (getCF b at_).2.2]) ∧ OwnB w' w.heap.size A' (getCF b at_).1.l.length k (getCF b at_).1.l ∧ Below w.heap.size w w' := by
  have hlen := hb.rd.len
  have hn := hb.len
  have e46 : at_ + 46 = at_ + 38 + 8 := by omega
  have e47 : at_ + 47 = at_ + 38 + 9 := by omega
  obtain ⟨pt, nx, q, hp⟩ : ∃ pt nx q, getPF b at_ = (pt, nx, q) := ⟨_, _, _, rfl⟩
  have hpt := getPF_pt hb.isB at_
  rw [hp] at hpt
  have PT := fun w' (h : Arg w' A n c b) => rgetPoint_any A n c b at_ w' h ha
  rw [hp] at PT
  have PT := Lib.hid PT
  have hokP := pc_ok hpt
  have hokZ := cc_ok (m := ⟨zeroCn, none, 0⟩) zeroPt_ok
  simp only at hokP
  by_cases hq : q = 0
  · subst hq
    obtain ⟨hi1, hi2, rfl⟩ := getPF_in hp
    obtain ⟨x, e2, hv⟩ : ∃ x e, valueF b (at_ + 38) = (x, e) := ⟨_, _, rfl⟩
    have hxb := valueF_bd hb.isB (at_ + 38)
    rw [hv] at hxb
    have hxb0 : 0 ≤ x := hxb.1
    have i38 : at_ + 38 + 38 ≤ 9223372036854775807 := by omega
    obtain ⟨x', q', hg⟩ : ∃ x q, getF b (at_ + 38) 8 = (x, q) := ⟨_, _, rfl⟩
    have hvg := hv
    unfold valueF at hvg
    rw [hg] at hvg
    simp only at hvg
    by_cases he2 : e2 = 0
    · subst he2
      have hin := valueF_in hv
      have hin2 := hin.2.1
      have hx2 : x ≤ 1125899906842624 := hin.2.2
      have hvv : x' = x ∧ q' = 0 := by
        split at hvg
        · injection hvg with _ h; exact absurd h (by decide)
        · injection hvg with h1 h2; exact ⟨h1, h2⟩
      obtain ⟨rfl, rfl⟩ := hvv
      have dm : decide (x' > 1125899906842624) = false := decide_eq_false (by omega)
      obtain ⟨y, e3, hy⟩ : ∃ x e, getF b (at_ + 38 + 8) 1 = (x, e) := ⟨_, _, rfl⟩
      have hyb := getF1_bd hb.isB hy
      by_cases he3 : e3 = 0
      · subst he3
        by_cases hy1 : 1 < y
        · have hc : getCF b at_ = (zeroCn, 0, 5) := by unfold getCF; rw [hp, if_pos rfl, hv, if_pos rfl, e46, hy, if_pos rfl, if_pos hy1]
          rw [hc]
          have dy : decide (y > 1) = true := decide_eq_true hy1
          have V := Lib.hid (And.intro hg (And.intro hy trivial))
          clear hv hy hp hc e46 e47 hvg hg
          go_enter Try.func24, Try.ntmps24
          go_wp2_with (fail)
          refine (PT.out _ (hb.below ((Below.refl w.heap.size w).alloc (Nat.le_refl _) _))).mono ?_
          rintro e w1 ⟨rfl, hb1⟩
          have hri : rowIs w1 w.heap.size 37 := (rowIs_of (heap_alloc_new w _) rfl).below hb1
          have hbl : Below w.heap.size w w1 := ((Below.refl w.heap.size w).alloc (Nat.le_refl _) _).trans (hb1.mono (by simp))
          have hz := hbl.size
          have hne : w.heap.size ≠ w1.heap.size := Nat.ne_of_lt hri.lt
          clear hb1
          go_wp2_with (fail)
          refine (rget_is (hb.below (below_setRow (belA hbl _ (Nat.le_refl _)) hz (by simp; omega) _)) (by omega) (by omega) V.out.1).mono ?_
          rintro e w2 ⟨rfl, hb2⟩
          have hri2 : rowIs w2 w.heap.size 37 := ((hri.alloc _).setRow w1.heap.size _ hne).below hb2
          have hpr2 := (hb2.block w1.heap.size (Array.getElem?_eq_some_iff.1 (setRow_heap _ w1.heap.size _ _ _ _ (heap_alloc_new w1 _))).1).trans (setRow_heap _ w1.heap.size _ _ _ _ (heap_alloc_new w1 _))
          have hbl2 : Below w.heap.size w w2 := bThen (below_setRow (belA hbl _ (Nat.le_refl _)) hz (by simp; omega) _) hb2
          have hz2 := hbl2.size
          clear hb2
          go_wp2_with (fail)
          refine (rget_is (hb.below hbl2) (by omega) (by omega) V.out.2.1).mono ?_
          rintro e w3 ⟨rfl, hb3⟩
          have hri3 : rowIs w3 w.heap.size 37 := hri2.below hb3
          have hpr3 := (hb3.block w1.heap.size (Array.getElem?_eq_some_iff.1 hpr2).1).trans hpr2
          have hbl3 : Below w.heap.size w w3 := bThen hbl2 hb3
          have hz3 := hbl3.size
          clear hb3
          have hri := hri3
          have hbl := hbl3
          have hz := hbl.size
          obtain ⟨t, hrow⟩ := row_set hri (cc ⟨zeroCn, none, 0⟩).toArray
          have RW := Lib.hid hrow
          have BL := Lib.hid hbl
          clear hrow hbl
          go_wp2_with (fail)
          refine bodyPost_ret (res_cell3 Try.results24 rfl (rd_coin _ _ _ _ RW.out hokZ.1)) rfl ?_
          exact ⟨none, 0, rfl, OwnN.nil _ _ _ _, below_setRow BL.out (Nat.le_refl _) hz _⟩
        · have dy : decide (y > 1) = false := decide_eq_false hy1
          obtain ⟨r, hr⟩ : ∃ r, (y == 1) = r := ⟨_, rfl⟩
          have hr2 : decide (y = 1) = r := by rw [← hr]; cases h : (y == 1) <;> simp_all
          obtain ⟨l, nx2, e4, hl⟩ : ∃ p nx e, getRowF b (at_ + 38 + 9) 100 = (p, nx, e) := ⟨_, _, _, rfl⟩
          have hls := getRowF_small hl
          by_cases he4 : e4 = 0
          · subst he4
            have hc : getCF b at_ = (⟨pt, x', r, l⟩, nx2, 0) := by unfold getCF; rw [hp, if_pos rfl, hv, if_pos rfl, e46, hy, if_pos rfl, if_neg hy1, e47, hl, if_pos rfl, hr2]
            rw [hc]
            have V := Lib.hid (And.intro hg (And.intro hy (And.intro hl trivial)))
            clear hv hy hp hc e46 e47 hl hr2 hvg hg
            have hsz := hokP.1
            go_enter Try.func24, Try.ntmps24
            go_wp2_with (fail)
            refine (PT.out _ (hb.below ((Below.refl w.heap.size w).alloc (Nat.le_refl _) _))).mono ?_
            rintro e w1 ⟨rfl, hb1⟩
            have hri : rowIs w1 w.heap.size 37 := (rowIs_of (heap_alloc_new w _) rfl).below hb1
            have hbl : Below w.heap.size w w1 := ((Below.refl w.heap.size w).alloc (Nat.le_refl _) _).trans (hb1.mono (by simp))
            have hz := hbl.size
            have hne : w.heap.size ≠ w1.heap.size := Nat.ne_of_lt hri.lt
            clear hb1
            go_wp2_with (fail)
            refine (rget_is (hb.below (below_setRow (belA hbl _ (Nat.le_refl _)) hz (by simp; omega) _)) (by omega) (by omega) V.out.1).mono ?_
            rintro e w2 ⟨rfl, hb2⟩
            have hri2 : rowIs w2 w.heap.size 37 := ((hri.alloc _).setRow w1.heap.size _ hne).below hb2
            have hpr2 := (hb2.block w1.heap.size (Array.getElem?_eq_some_iff.1 (setRow_heap _ w1.heap.size _ _ _ _ (heap_alloc_new w1 _))).1).trans (setRow_heap _ w1.heap.size _ _ _ _ (heap_alloc_new w1 _))
            have hbl2 : Below w.heap.size w w2 := bThen (below_setRow (belA hbl _ (Nat.le_refl _)) hz (by simp; omega) _) hb2
            have hz2 := hbl2.size
            clear hb2
            go_wp2_with (fail)
            refine (rget_is (hb.below hbl2) (by omega) (by omega) V.out.2.1).mono ?_
            rintro e w3 ⟨rfl, hb3⟩
            have hri3 : rowIs w3 w.heap.size 37 := hri2.below hb3
            have hpr3 := (hb3.block w1.heap.size (Array.getElem?_eq_some_iff.1 hpr2).1).trans hpr2
            have hbl3 : Below w.heap.size w w3 := bThen hbl2 hb3
            have hz3 := hbl3.size
            clear hb3
            go_wp2_with (fail)
            refine (rgetRow_is (hb.below hbl3) (by omega) (by omega) V.out.2.2.1).mono ?_
            rintro e w4 ⟨A4, c4, rfl, ho4, hb4⟩
            have hri4 : rowIs w4 w.heap.size 37 := hri3.below hb4
            have hpr4 := (hb4.block w1.heap.size (Array.getElem?_eq_some_iff.1 hpr3).1).trans hpr3
            have hbl4 : Below w.heap.size w w4 := bThen hbl3 hb4
            have hz4 := hbl4.size
            have hown := OwnN.mono ho4 hz3
            have hlt4 := OwnN.lt ho4
            have hrng : w4.rangeAt w1.heap.size 0 (pc pt) := by
              intro j v hv
              rw [Nat.zero_add, (row_cells hpr4 j).1]
              simpa using hv
            have hh := hasAt_of hrng (pc_length hpt)
            have hcl := cellsAt_of hrng (pc_length hpt)
            have hmk := mkCn_cc ⟨⟨pt, x', r, l⟩, A4, c4⟩
            simp only at hmk
            have hokC := cc_ok (m := ⟨⟨pt, x', r, l⟩, A4, c4⟩) hpt
            obtain ⟨t, hrow⟩ := row_set hri4 (cc ⟨⟨pt, x', r, l⟩, A4, c4⟩).toArray
            have hown2 : OwnB (w4.setRow w.heap.size (cc ⟨⟨pt, x', r, l⟩, A4, c4⟩).toArray) w.heap.size A4 l.length c4 l :=
              Own.keep hown fun k hk => setRow_other _ _ _ _ (fun e => by have := (hlt4 k hk).1; have := hri3.lt; omega)
            have RW := Lib.hid (And.intro hrow hown2)
            have BL := Lib.hid hbl4
            clear hrow hbl4 hb4 ho4 hown hlt4 hrng hpr4 hpr3 hpr2 hown2
            go_wp2_with (fail)
            refine bodyPost_ret (res_cell3 Try.results24 rfl (rd_coin _ _ _ _ RW.out.1 hokC.1)) rfl ?_
            exact ⟨A4, c4, rfl, RW.out.2, below_setRow BL.out (Nat.le_refl _) hz4 _⟩
          · have hc : getCF b at_ = (zeroCn, 0, e4) := by unfold getCF; rw [hp, if_pos rfl, hv, if_pos rfl, e46, hy, if_pos rfl, if_neg hy1, e47, hl, if_neg he4]
            have hp0 : l = [] := by have := getRowF_err (b := b) (at_ := at_ + 38 + 9) (most := 100) (by rw [hl]; exact he4); rw [hl] at this; exact this
            subst hp0
            rw [hc]
            have d4 : (e4 != 0) = true := by rw [bne_iff_ne]; exact he4
            have V := Lib.hid (And.intro hg (And.intro hy (And.intro hl trivial)))
            clear hv hy hp hc e46 e47 hl hr2 he4 hvg hg
            go_enter Try.func24, Try.ntmps24
            go_wp2_with (fail)
            refine (PT.out _ (hb.below ((Below.refl w.heap.size w).alloc (Nat.le_refl _) _))).mono ?_
            rintro e w1 ⟨rfl, hb1⟩
            have hri : rowIs w1 w.heap.size 37 := (rowIs_of (heap_alloc_new w _) rfl).below hb1
            have hbl : Below w.heap.size w w1 := ((Below.refl w.heap.size w).alloc (Nat.le_refl _) _).trans (hb1.mono (by simp))
            have hz := hbl.size
            have hne : w.heap.size ≠ w1.heap.size := Nat.ne_of_lt hri.lt
            clear hb1
            go_wp2_with (fail)
            refine (rget_is (hb.below (below_setRow (belA hbl _ (Nat.le_refl _)) hz (by simp; omega) _)) (by omega) (by omega) V.out.1).mono ?_
            rintro e w2 ⟨rfl, hb2⟩
            have hri2 : rowIs w2 w.heap.size 37 := ((hri.alloc _).setRow w1.heap.size _ hne).below hb2
            have hpr2 := (hb2.block w1.heap.size (Array.getElem?_eq_some_iff.1 (setRow_heap _ w1.heap.size _ _ _ _ (heap_alloc_new w1 _))).1).trans (setRow_heap _ w1.heap.size _ _ _ _ (heap_alloc_new w1 _))
            have hbl2 : Below w.heap.size w w2 := bThen (below_setRow (belA hbl _ (Nat.le_refl _)) hz (by simp; omega) _) hb2
            have hz2 := hbl2.size
            clear hb2
            go_wp2_with (fail)
            refine (rget_is (hb.below hbl2) (by omega) (by omega) V.out.2.1).mono ?_
            rintro e w3 ⟨rfl, hb3⟩
            have hri3 : rowIs w3 w.heap.size 37 := hri2.below hb3
            have hpr3 := (hb3.block w1.heap.size (Array.getElem?_eq_some_iff.1 hpr2).1).trans hpr2
            have hbl3 : Below w.heap.size w w3 := bThen hbl2 hb3
            have hz3 := hbl3.size
            clear hb3
            go_wp2_with (fail)
            refine (rgetRow_is (hb.below hbl3) (by omega) (by omega) V.out.2.2.1).mono ?_
            rintro e w4 ⟨A4, c4, rfl, ho4, hb4⟩
            clear ho4
            have hri := hri3.below hb4
            have hbl := bThen hbl3 hb4
            have hz := hbl.size
            obtain ⟨t, hrow⟩ := row_set hri (cc ⟨zeroCn, none, 0⟩).toArray
            have RW := Lib.hid hrow
            have BL := Lib.hid hbl
            clear hrow hbl
            go_wp2_with (fail)
            refine bodyPost_ret (res_cell3 Try.results24 rfl (rd_coin _ _ _ _ RW.out hokZ.1)) rfl ?_
            exact ⟨none, 0, rfl, OwnN.nil _ _ _ _, below_setRow BL.out (Nat.le_refl _) hz _⟩
      · have hc : getCF b at_ = (zeroCn, 0, e3) := by unfold getCF; rw [hp, if_pos rfl, hv, if_pos rfl, e46, hy, if_neg he3]
        rw [hc]
        have d3 : (e3 != 0) = true := by rw [bne_iff_ne]; exact he3
        have d3' : (e3 == 0) = false := beq_eq_false_iff_ne.2 he3
        have V := Lib.hid (And.intro hg (And.intro hy trivial))
        clear hv hy hp hc e46 e47 he3 hvg hg
        go_enter Try.func24, Try.ntmps24
        go_wp2_with (fail)
        refine (PT.out _ (hb.below ((Below.refl w.heap.size w).alloc (Nat.le_refl _) _))).mono ?_
        rintro e w1 ⟨rfl, hb1⟩
        have hri : rowIs w1 w.heap.size 37 := (rowIs_of (heap_alloc_new w _) rfl).below hb1
        have hbl : Below w.heap.size w w1 := ((Below.refl w.heap.size w).alloc (Nat.le_refl _) _).trans (hb1.mono (by simp))
        have hz := hbl.size
        have hne : w.heap.size ≠ w1.heap.size := Nat.ne_of_lt hri.lt
        clear hb1
        go_wp2_with (fail)
        refine (rget_is (hb.below (below_setRow (belA hbl _ (Nat.le_refl _)) hz (by simp; omega) _)) (by omega) (by omega) V.out.1).mono ?_
        rintro e w2 ⟨rfl, hb2⟩
        have hri2 : rowIs w2 w.heap.size 37 := ((hri.alloc _).setRow w1.heap.size _ hne).below hb2
        have hpr2 := (hb2.block w1.heap.size (Array.getElem?_eq_some_iff.1 (setRow_heap _ w1.heap.size _ _ _ _ (heap_alloc_new w1 _))).1).trans (setRow_heap _ w1.heap.size _ _ _ _ (heap_alloc_new w1 _))
        have hbl2 : Below w.heap.size w w2 := bThen (below_setRow (belA hbl _ (Nat.le_refl _)) hz (by simp; omega) _) hb2
        have hz2 := hbl2.size
        clear hb2
        go_wp2_with (fail)
        refine (rget_is (hb.below hbl2) (by omega) (by omega) V.out.2.1).mono ?_
        rintro e w3 ⟨rfl, hb3⟩
        have hri3 : rowIs w3 w.heap.size 37 := hri2.below hb3
        have hpr3 := (hb3.block w1.heap.size (Array.getElem?_eq_some_iff.1 hpr2).1).trans hpr2
        have hbl3 : Below w.heap.size w w3 := bThen hbl2 hb3
        have hz3 := hbl3.size
        clear hb3
        have hri := hri3
        have hbl := hbl3
        have hz := hbl.size
        obtain ⟨t, hrow⟩ := row_set hri (cc ⟨zeroCn, none, 0⟩).toArray
        have RW := Lib.hid hrow
        have BL := Lib.hid hbl
        clear hrow hbl
        go_wp2_with (fail)
        refine bodyPost_ret (res_cell3 Try.results24 rfl (rd_coin _ _ _ _ RW.out hokZ.1)) rfl ?_
        exact ⟨none, 0, rfl, OwnN.nil _ _ _ _, below_setRow BL.out (Nat.le_refl _) hz _⟩
    · have hc : getCF b at_ = (zeroCn, 0, e2) := by unfold getCF; rw [hp, if_pos rfl, hv, if_neg he2]
      rw [hc]
      have V := Lib.hid (And.intro hg trivial)
      have hxb' := getF_bound hb.isB (at_ + 38) 8
      rw [hg] at hxb'
      have hxb1 : 0 ≤ x' := hxb'.1
      clear hxb'
      by_cases hq' : q' = 0
      · have hxm : 1125899906842624 < x' := by
          by_cases hm : maxM < x'
          · exact hm
          · rw [if_neg (fun h => hm h.2)] at hvg; injection hvg with _ h; exact absurd (h.symm.trans hq') he2
        have hq5 : e2 = 5 := by rw [if_pos ⟨hq', hxm⟩] at hvg; injection hvg with _ h; exact h.symm
        subst hq5
        have d2 : (q' != 0) = false := by rw [bne_eq_false_iff_eq]; exact hq'
        have dm : decide (x' > 1125899906842624) = true := decide_eq_true hxm
        clear hv hp hc e46 e47 he2 hg hvg hq'
        go_enter Try.func24, Try.ntmps24
        go_wp2_with (fail)
        refine (PT.out _ (hb.below ((Below.refl w.heap.size w).alloc (Nat.le_refl _) _))).mono ?_
        rintro e w1 ⟨rfl, hb1⟩
        have hri : rowIs w1 w.heap.size 37 := (rowIs_of (heap_alloc_new w _) rfl).below hb1
        have hbl : Below w.heap.size w w1 := ((Below.refl w.heap.size w).alloc (Nat.le_refl _) _).trans (hb1.mono (by simp))
        have hz := hbl.size
        have hne : w.heap.size ≠ w1.heap.size := Nat.ne_of_lt hri.lt
        clear hb1
        go_wp2_with (fail)
        refine (rget_is (hb.below (below_setRow (belA hbl _ (Nat.le_refl _)) hz (by simp; omega) _)) (by omega) (by omega) V.out.1).mono ?_
        rintro e w2 ⟨rfl, hb2⟩
        have hri2 : rowIs w2 w.heap.size 37 := ((hri.alloc _).setRow w1.heap.size _ hne).below hb2
        have hpr2 := (hb2.block w1.heap.size (Array.getElem?_eq_some_iff.1 (setRow_heap _ w1.heap.size _ _ _ _ (heap_alloc_new w1 _))).1).trans (setRow_heap _ w1.heap.size _ _ _ _ (heap_alloc_new w1 _))
        have hbl2 : Below w.heap.size w w2 := bThen (below_setRow (belA hbl _ (Nat.le_refl _)) hz (by simp; omega) _) hb2
        have hz2 := hbl2.size
        clear hb2
        have hri := hri2
        have hbl := hbl2
        have hz := hbl.size
        obtain ⟨t, hrow⟩ := row_set hri (cc ⟨zeroCn, none, 0⟩).toArray
        have RW := Lib.hid hrow
        have BL := Lib.hid hbl
        clear hrow hbl
        go_wp2_with (fail)
        refine bodyPost_ret (res_cell3 Try.results24 rfl (rd_coin _ _ _ _ RW.out hokZ.1)) rfl ?_
        exact ⟨none, 0, rfl, OwnN.nil _ _ _ _, below_setRow BL.out (Nat.le_refl _) hz _⟩
      · have hqq : q' = e2 := by rw [if_neg (fun h => hq' h.1)] at hvg; injection hvg with _ h
        subst hqq
        have d2 : (q' != 0) = true := by rw [bne_iff_ne]; exact hq'
        clear hv hp hc e46 e47 he2 hg hvg hq'
        go_enter Try.func24, Try.ntmps24
        go_wp2_with (fail)
        refine (PT.out _ (hb.below ((Below.refl w.heap.size w).alloc (Nat.le_refl _) _))).mono ?_
        rintro e w1 ⟨rfl, hb1⟩
        have hri : rowIs w1 w.heap.size 37 := (rowIs_of (heap_alloc_new w _) rfl).below hb1
        have hbl : Below w.heap.size w w1 := ((Below.refl w.heap.size w).alloc (Nat.le_refl _) _).trans (hb1.mono (by simp))
        have hz := hbl.size
        have hne : w.heap.size ≠ w1.heap.size := Nat.ne_of_lt hri.lt
        clear hb1
        go_wp2_with (fail)
        refine (rget_is (hb.below (below_setRow (belA hbl _ (Nat.le_refl _)) hz (by simp; omega) _)) (by omega) (by omega) V.out.1).mono ?_
        rintro e w2 ⟨rfl, hb2⟩
        have hri2 : rowIs w2 w.heap.size 37 := ((hri.alloc _).setRow w1.heap.size _ hne).below hb2
        have hpr2 := (hb2.block w1.heap.size (Array.getElem?_eq_some_iff.1 (setRow_heap _ w1.heap.size _ _ _ _ (heap_alloc_new w1 _))).1).trans (setRow_heap _ w1.heap.size _ _ _ _ (heap_alloc_new w1 _))
        have hbl2 : Below w.heap.size w w2 := bThen (below_setRow (belA hbl _ (Nat.le_refl _)) hz (by simp; omega) _) hb2
        have hz2 := hbl2.size
        clear hb2
        have hri := hri2
        have hbl := hbl2
        have hz := hbl.size
        obtain ⟨t, hrow⟩ := row_set hri (cc ⟨zeroCn, none, 0⟩).toArray
        have RW := Lib.hid hrow
        have BL := Lib.hid hbl
        clear hrow hbl
        go_wp2_with (fail)
        refine bodyPost_ret (res_cell3 Try.results24 rfl (rd_coin _ _ _ _ RW.out hokZ.1)) rfl ?_
        exact ⟨none, 0, rfl, OwnN.nil _ _ _ _, below_setRow BL.out (Nat.le_refl _) hz _⟩

  · have hc : getCF b at_ = (zeroCn, 0, q) := by unfold getCF; rw [hp, if_neg hq]
    rw [hc]
    have d1 : (q != 0) = true := by rw [bne_iff_ne]; exact hq
    clear hp hc e46 e47 hq
    go_enter Try.func24, Try.ntmps24
    go_wp2_with (fail)
    refine (PT.out _ (hb.below ((Below.refl w.heap.size w).alloc (Nat.le_refl _) _))).mono ?_
    rintro e w1 ⟨rfl, hb1⟩
    have hri : rowIs w1 w.heap.size 37 := (rowIs_of (heap_alloc_new w _) rfl).below hb1
    have hbl : Below w.heap.size w w1 := ((Below.refl w.heap.size w).alloc (Nat.le_refl _) _).trans (hb1.mono (by simp))
    have hz := hbl.size
    have hne : w.heap.size ≠ w1.heap.size := Nat.ne_of_lt hri.lt
    clear hb1
    go_wp2_with (fail)
    refine bodyPost_ret (res_cell3 Try.results24 rfl (rd_coin_set ((hri.alloc _).setRow w1.heap.size _ hne) hokZ.1)) rfl ?_
    exact ⟨none, 0, rfl, OwnN.nil _ _ _ _, below_setRow (below_setRow (belA hbl _ (Nat.le_refl _)) hz (by simp; omega) _) (Nat.le_refl _) (by simp; omega) _⟩
end Go.Proofs.Ytejablcdpakgoaa
