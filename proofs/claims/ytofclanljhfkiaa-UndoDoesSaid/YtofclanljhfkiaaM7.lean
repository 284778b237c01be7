/- Joined texts: CoinJ, CoinK, CoinL, CoinN, CoinP. -/
import Derived.Test.YtofclanljhfkiaaM6
import Derived.Test.YtofclanljhfkiaaM4
/- What value and GetOut answer, in the program and in the reference. -/
namespace Go.Proofs.Ytofclanljhfkiaa
open Go.RowKit Go.Proofs En Co
set_option linter.unusedVariables false
set_option linter.unusedSimpArgs false
set_option maxRecDepth 20000

set_option maxHeartbeats 400000 in
theorem value_is {A : Option Addr} {n c : Nat} {b : List Int} {at_ x q : Int} {w : World} (hb : Arg w A n c b) (ha : -9223372036854775808 ≤ at_ ∧ at_ ≤ 9223372036854775807) (h : valueF b at_ = (x, q)) :
    Calls Try.prog 98 #[.slice A n c, .int .i64 at_] w fun e w' => e = .returned (.tuple #[.int .u64 x, .int .i64 q]) ∧ Below w.heap.size w w' := by
  obtain ⟨v, e, hv⟩ : ∃ v e, getF b at_ 8 = (v, e) := ⟨_, _, rfl⟩
  have hvb := getF_bound hb.isB at_ 8
  rw [hv] at hvb
  have hvb1 : 0 ≤ v := hvb.1
  unfold valueF at h
  rw [hv] at h
  simp only at h
  by_cases he : e = 0
  · have d1 : (e == 0) = true := beq_iff_eq.2 he
    by_cases hm : 1125899906842624 < v
    · rw [if_pos ⟨he, hm⟩] at h
      have d2 : decide (v > 1125899906842624) = true := decide_eq_true hm
      have V := Lib.hid (And.intro hv h)
      clear hv h he hvb
      go_enter Try.func98, Try.ntmps98
      go_wp2_with (fail)
      refine (get_is hb ha (by omega) V.out.1).mono ?_
      rintro e w1 ⟨rfl, hb1⟩
      have BL := Lib.hid hb1
      clear hb1
      go_wp2_with (fail)
      go_ret2
      have h := V.out.2
      injection h with h1 h2
      subst h1 h2
      exact ⟨rfl, BL.out⟩
    · rw [if_neg (fun hh => hm hh.2)] at h
      have d2 : decide (v > 1125899906842624) = false := decide_eq_false hm
      have V := Lib.hid (And.intro hv h)
      clear hv h he hvb
      go_enter Try.func98, Try.ntmps98
      go_wp2_with (fail)
      refine (get_is hb ha (by omega) V.out.1).mono ?_
      rintro e w1 ⟨rfl, hb1⟩
      have BL := Lib.hid hb1
      clear hb1
      go_wp2_with (fail)
      go_ret2
      have h := V.out.2
      injection h with h1 h2
      subst h1 h2
      exact ⟨rfl, BL.out⟩
  · rw [if_neg (fun hh => he hh.1)] at h
    have d1 : (e == 0) = false := beq_eq_false_iff_ne.2 he
    have V := Lib.hid (And.intro hv h)
    clear hv h he hvb
    go_enter Try.func98, Try.ntmps98
    go_wp2_with (fail)
    refine (get_is hb ha (by omega) V.out.1).mono ?_
    rintro e w1 ⟨rfl, hb1⟩
    have BL := Lib.hid hb1
    clear hb1
    go_wp2_with (fail)
    go_ret2
    have h := V.out.2
    injection h with h1 h2
    subst h1 h2
    exact ⟨rfl, BL.out⟩

theorem two_set6 {w : World} {g : Nat} {v0 v1 : Value} {t : TypeId} (h : w.heap[g]? = some (.cells #[v0, v1] t (0, 0))) (u v : Value) :
    (w.setCell ⟨g, 0, none⟩ u).cell? ⟨g, 0, none⟩ = some u ∧ ((w.setCell ⟨g, 0, none⟩ u).setCell ⟨g, 1, none⟩ v).cell? ⟨g, 0, none⟩ = some u ∧ ((w.setCell ⟨g, 0, none⟩ u).setCell ⟨g, 1, none⟩ v).cell? ⟨g, 1, none⟩ = some v := by
  have h1 := heap_setCell_same w g 0 _ t u h
  have h2 := heap_setCell_same _ g 1 _ t v h1
  exact ⟨cell_of_row _ g 0 _ t (0, 0) h1, cell_of_row _ g 0 _ t (0, 0) h2, cell_of_row _ g 1 _ t (0, 0) h2⟩
theorem box_two6 {w : World} {g : Nat} {v0 v1 : Value} {t : TypeId} (h : w.heap[g]? = some (.cells #[v0, v1] t (0, 0))) :
    w.cell? ⟨g, 0, none⟩ = some v0 ∧ w.cell? ⟨g, 1, none⟩ = some v1 ∧ w.frozen? ⟨g, 0, none⟩ = false ∧ w.frozen? ⟨g, 1, none⟩ = false :=
  ⟨cell_of_row w g 0 _ t (0, 0) h, cell_of_row w g 1 _ t (0, 0) h, frozen_of_row w g 0 _ t h, frozen_of_row w g 1 _ t h⟩
theorem own_sets6 {w : World} {base g : Nat} {A : Option Addr} {n c : Nat} {xs : List Int} (h : OwnB w base A n c xs) (hne : blk A ≠ some g) (u v : Value) : OwnB ((w.setCell ⟨g, 0, none⟩ u).setCell ⟨g, 1, none⟩ v) base A n c xs :=
  Own.setOther (Own.setOther h (p := ⟨g, 0, none⟩) hne u) (p := ⟨g, 1, none⟩) hne v
theorem getRowF_isB {b : List Int} (hB : IsB b) (at_ most : Int) : IsB (getRowF b at_ most).1 := by
  unfold getRowF
  split
  · split
    · exact IsB.nil
    · split
      · exact partF_isB hB _ _
      · exact IsB.nil
  · exact IsB.nil
theorem getRowF_small {b : List Int} {at_ : Int} {p : List Int} {nx q : Int} (h : getRowF b at_ 100 = (p, nx, q)) : p.length ≤ 100 := by
  unfold getRowF at h
  split at h
  · split at h
    · injection h with h1 _; rw [← h1]; exact Nat.zero_le _
    · rename_i h2
      split at h
      · rename_i h3
        injection h with h1 _
        have := partF_length h3
        rw [← h1]
        omega
      · injection h with h1 _; rw [← h1]; exact Nat.zero_le _
  · injection h with h1 _; rw [← h1]; exact Nat.zero_le _
theorem valueF_in {b : List Int} {at_ x : Int} (h : valueF b at_ = (x, 0)) : 0 ≤ at_ ∧ at_ + 8 ≤ b.length ∧ x ≤ maxM := by
  unfold valueF at h
  split at h
  · injection h with _ h; exact absurd h (by decide)
  · rename_i hc
    have h0 : (getF b at_ 8).2 = 0 := by rw [h]
    have := getF_in h0
    refine ⟨this.1, this.2.2, ?_⟩
    rw [h] at hc
    exact Int.not_lt.1 (fun hh => hc ⟨rfl, hh⟩)
theorem valueF_bd {b : List Int} (hB : IsB b) (at_ : Int) : 0 ≤ (valueF b at_).1 ∧ (valueF b at_).1 < 18446744073709551616 := by
  have := getF_bound hB at_ 8
  unfold valueF
  split <;> exact ⟨this.1, this.2.2⟩

end Go.Proofs.Ytofclanljhfkiaa
/- What Get answers, in the program and in the reference. -/
namespace Go.Proofs.Ytofclanljhfkiaa
open Go.RowKit Go.Proofs En Co
set_option linter.unusedVariables false
set_option linter.unusedSimpArgs false
set_option maxRecDepth 20000
attribute [local go_sem ↓] ld_point_eq ld_coin_eq ld_hash_eq st_point_eq st_coin_eq bd_point_eq bd_coin_eq
attribute [local go_sem] ld_point_run ld_coin_run ld_hash_run st_point_run st_coin_run bd_point_zero bd_coin_zero bd_point_of bd_coin_of hash_at

theorem rowIs_new (w : World) (cs : Array Value) (T : TypeId) (n : Nat) (h : cs.size = n) : rowIs (w.alloc (.cells cs T)) w.heap.size n := ⟨cs, T, heap_alloc_new w _, h⟩
theorem rowIs_34 (w : World) (cs : Array Value) (T : TypeId) (h : cs.size = 34) : rowIs (w.alloc (.cells cs T)) w.heap.size 34 := rowIs_new w cs T 34 h
theorem rowIs_37 (w : World) (cs : Array Value) (T : TypeId) (h : cs.size = 37) : rowIs (w.alloc (.cells cs T)) w.heap.size 37 := rowIs_new w cs T 37 h
theorem rowIs.alloc {w : World} {b n : Nat} (h : rowIs w b n) (o : Obj) : rowIs (w.alloc o) b n := h.below ((Below.refl _ _).alloc (Nat.le_refl _) o)
theorem rowIs.setRow {w : World} {b n : Nat} (h : rowIs w b n) (c : Nat) (cs : Array Value) (hne : b ≠ c) : rowIs (w.setRow c cs) b n := by
  obtain ⟨old, t, hg, hs⟩ := h
  exact ⟨old, t, (setRow_other w c b _ hne).trans hg, hs⟩
theorem getPF_in {b : List Int} {at_ nx : Int} {p : Pt} (h : getPF b at_ = (p, nx, 0)) : 0 ≤ at_ ∧ at_ + 38 ≤ b.length ∧ nx = at_ + 38 := by
  unfold getPF at h
  split at h
  · rename_i h0
    obtain ⟨h1, _, h2, _⟩ := partF_ok h0
    injection h with _ h
    injection h with h _
    exact ⟨h1, h2, h.symm⟩
  · rename_i h0
    injection h with _ h
    injection h with _ h
    exact absurd h h0
theorem getPF_pt {b : List Int} (hB : IsB b) (at_ : Int) : (getPF b at_).1.ok := by
  unfold getPF
  split
  · rename_i h0
    have := partF_length h0
    exact ptF_ok (partF_isB hB _ _) (by omega)
  · exact zeroPt_ok
theorem getF1_bd {b : List Int} (hB : IsB b) {at_ x e : Int} (h : getF b at_ 1 = (x, e)) : 0 ≤ x ∧ x ≤ 255 := by
  have := getF_bound hB at_ 1
  rw [h] at this
  have h2 : x < 256 ^ 1 := this.2.1
  exact ⟨this.1, by omega⟩
theorem rowIs_alloc' (w : World) (b n : Nat) (o : Obj) (h : rowIs w b n) : rowIs (w.alloc o) b n := h.alloc o
theorem rowIs_setRow' (w : World) (b n c : Nat) (cs : Array Value) (h : rowIs w b n) (hne : b ≠ c) : rowIs (w.setRow c cs) b n := h.setRow c cs hne
theorem rd_coin_set {w : World} {b : Nat} {cs : Array Value} (h : rowIs w b 37) (hc : cs.size = 37) : (loadVar 57 ⟨b, 0, none⟩).run Try.prog (w.setRow b cs) = .ok (.agg cs) (w.setRow b cs) := by
  obtain ⟨t, hr⟩ := row_set h cs
  exact rd_coin _ _ _ _ hr hc
theorem rowIs_both (w : World) (b n c : Nat) (o : Obj) (cs : Array Value) (h : rowIs w b n) (hne : b ≠ c) : rowIs ((w.alloc o).setRow c cs) b n := (h.alloc o).setRow c cs hne
attribute [local go_sem] rowIs_34 rowIs_37 rowIs_both
/-- a row that another one was written beside -/
theorem row_kept {w : World} {g h : Nat} {o : Obj} (hg : w.heap[g]? = some o) (hne : g ≠ h) (cs : Array Value) : (w.setRow h cs).heap[g]? = some o := (setRow_other w h g _ hne).trans hg

set_option maxRecDepth 10000 in
set_option maxHeartbeats 2000000 in
theorem getC_any (A : Option Addr) (n c : Nat) (b : List Int) (at_ : Int) (w : World) (hb : Arg w A n c b) (ha : -9223372036854775808 ≤ at_ ∧ at_ ≤ 9223372036854775807) :
    Calls Try.prog 63 #[.slice A n c, .int .i64 at_] w fun e w' => ∃ A' k, e = .returned (.tuple #[.agg (cc ⟨(getCF b at_).1, A', k⟩).toArray, .int .i64 (getCF b at_).2.1, .int .i64 (getCF b at_).2.2]) ∧ OwnB w' w.heap.size A' (getCF b at_).1.l.length k (getCF b at_).1.l ∧ Below w.heap.size w w' := by
  have hlen := hb.rd.len
  have hn := hb.len
  have e46 : at_ + 46 = at_ + 38 + 8 := by omega
  have e47 : at_ + 47 = at_ + 38 + 8 + 1 := by omega
  obtain ⟨pt, nx, q, hp⟩ : ∃ pt nx q, getPF b at_ = (pt, nx, q) := ⟨_, _, _, rfl⟩
  have hpt := getPF_pt hb.isB at_
  rw [hp] at hpt
  have PT := fun w' (h : Arg w' A n c b) => getPoint_any A n c b at_ w' h ha
  rw [hp] at PT
  have PT := Lib.hid PT
  have hokP := pc_ok hpt
  have hokZ := cc_ok (m := ⟨zeroCn, none, 0⟩) zeroPt_ok
  simp only at hokP
  by_cases hq : q = 0
  · subst hq
    obtain ⟨hi1, hi2, rfl⟩ := getPF_in hp
    obtain ⟨x, e2, hv⟩ : ∃ x e, valueF b (at_ + 38) = (x, e) := ⟨_, _, rfl⟩
    have hxb := valueF_bd hb.isB (at_ + 38)
    rw [hv] at hxb
    have hxb0 : 0 ≤ x := hxb.1
    have i38 : at_ + 38 + 38 ≤ 9223372036854775807 := by omega
    by_cases he2 : e2 = 0
    · subst he2
      have hin := valueF_in hv
      have hin2 := hin.2.1
      have hx2 : x ≤ 1125899906842624 := hin.2.2
      obtain ⟨y, e3, hy⟩ : ∃ x e, getF b (at_ + 38 + 8) 1 = (x, e) := ⟨_, _, rfl⟩
      have hyb := getF1_bd hb.isB hy
      by_cases he3 : e3 = 0
      · subst he3
        by_cases hy1 : 1 < y
        · have hc : getCF b at_ = (zeroCn, 0, 5) := by unfold getCF; rw [hp, if_pos rfl, hv, if_pos rfl, e46, hy, if_pos rfl, if_pos hy1]
          rw [hc]
          have dy : decide (y > 1) = true := decide_eq_true hy1
          have V := Lib.hid (And.intro hv (And.intro hy trivial))
          clear hv hy hp hc e46 e47 
          go_enter Try.func63, Try.ntmps63
          go_wp2_with (fail)
          refine (PT.out _ (hb.below ((Below.refl w.heap.size w).alloc (Nat.le_refl _) _))).mono ?_
          rintro e w1 ⟨rfl, hb1⟩
          have hri : rowIs w1 w.heap.size 37 := (rowIs_of (heap_alloc_new w _) rfl).below hb1
          have hbl : Below w.heap.size w w1 := ((Below.refl w.heap.size w).alloc (Nat.le_refl _) _).trans (hb1.mono (by simp))
          have hz := hbl.size
          have hne : w.heap.size ≠ w1.heap.size := Nat.ne_of_lt hri.lt
          clear hb1
          go_wp2_with (fail)
          refine (value_is (hb.below (below_setRow (belA hbl _ (Nat.le_refl _)) hz (by simp; omega) _)) (by omega) V.out.1).mono ?_
          rintro e w2 ⟨rfl, hb2⟩
          have hri2 : rowIs w2 w.heap.size 37 := ((hri.alloc _).setRow w1.heap.size _ hne).below hb2
          have hpr2 := (hb2.block w1.heap.size (Array.getElem?_eq_some_iff.1 (setRow_heap _ w1.heap.size _ _ _ _ (heap_alloc_new w1 _))).1).trans (setRow_heap _ w1.heap.size _ _ _ _ (heap_alloc_new w1 _))
          have hbl2 : Below w.heap.size w w2 := bThen (below_setRow (belA hbl _ (Nat.le_refl _)) hz (by simp; omega) _) hb2
          have hz2 := hbl2.size
          clear hb2
          go_wp2_with (fail)
          refine (get_is (hb.below hbl2) (by omega) (by omega) V.out.2.1).mono ?_
          rintro e w3 ⟨rfl, hb3⟩
          have hri3 : rowIs w3 w.heap.size 37 := hri2.below hb3
          have hpr3 := (hb3.block w1.heap.size (Array.getElem?_eq_some_iff.1 hpr2).1).trans hpr2
          have hbl3 : Below w.heap.size w w3 := bThen hbl2 hb3
          have hz3 := hbl3.size
          clear hb3
          have hri := hri3
          have hbl := hbl3
          have hz := hbl.size
          obtain ⟨t, hrow⟩ := row_set hri (cc ⟨zeroCn, none, 0⟩).toArray
          have RW := Lib.hid hrow
          have BL := Lib.hid hbl
          clear hrow hbl
          go_wp2_with (fail)
          refine bodyPost_ret (res_cell3 Try.results63 rfl (rd_coin _ _ _ _ RW.out hokZ.1)) rfl ?_
          exact ⟨none, 0, rfl, OwnN.nil _ _ _ _, below_setRow BL.out (Nat.le_refl _) hz _⟩
        · have dy : decide (y > 1) = false := decide_eq_false hy1
          obtain ⟨r, hr⟩ : ∃ r, (y == 1) = r := ⟨_, rfl⟩
          have hr2 : decide (y = 1) = r := by rw [← hr]; cases h : (y == 1) <;> simp_all
          obtain ⟨l, nx2, e4, hl⟩ : ∃ p nx e, getRowF b (at_ + 38 + 8 + 1) 100 = (p, nx, e) := ⟨_, _, _, rfl⟩
          have hls := getRowF_small hl
          by_cases he4 : e4 = 0
          · subst he4
            have hc : getCF b at_ = (⟨pt, x, r, l⟩, nx2, 0) := by unfold getCF; rw [hp, if_pos rfl, hv, if_pos rfl, e46, hy, if_pos rfl, if_neg hy1, e47, hl, if_pos rfl, hr2]
            rw [hc]
            have V := Lib.hid (And.intro hv (And.intro hy (And.intro hl trivial)))
            clear hv hy hp hc e46 e47 hl hr2 
            have hsz := hokP.1
            go_enter Try.func63, Try.ntmps63
            go_wp2_with (fail)
            refine (PT.out _ (hb.below ((Below.refl w.heap.size w).alloc (Nat.le_refl _) _))).mono ?_
            rintro e w1 ⟨rfl, hb1⟩
            have hri : rowIs w1 w.heap.size 37 := (rowIs_of (heap_alloc_new w _) rfl).below hb1
            have hbl : Below w.heap.size w w1 := ((Below.refl w.heap.size w).alloc (Nat.le_refl _) _).trans (hb1.mono (by simp))
            have hz := hbl.size
            have hne : w.heap.size ≠ w1.heap.size := Nat.ne_of_lt hri.lt
            clear hb1
            go_wp2_with (fail)
            refine (value_is (hb.below (below_setRow (belA hbl _ (Nat.le_refl _)) hz (by simp; omega) _)) (by omega) V.out.1).mono ?_
            rintro e w2 ⟨rfl, hb2⟩
            have hri2 : rowIs w2 w.heap.size 37 := ((hri.alloc _).setRow w1.heap.size _ hne).below hb2
            have hpr2 := (hb2.block w1.heap.size (Array.getElem?_eq_some_iff.1 (setRow_heap _ w1.heap.size _ _ _ _ (heap_alloc_new w1 _))).1).trans (setRow_heap _ w1.heap.size _ _ _ _ (heap_alloc_new w1 _))
            have hbl2 : Below w.heap.size w w2 := bThen (below_setRow (belA hbl _ (Nat.le_refl _)) hz (by simp; omega) _) hb2
            have hz2 := hbl2.size
            clear hb2
            go_wp2_with (fail)
            refine (get_is (hb.below hbl2) (by omega) (by omega) V.out.2.1).mono ?_
            rintro e w3 ⟨rfl, hb3⟩
            have hri3 : rowIs w3 w.heap.size 37 := hri2.below hb3
            have hpr3 := (hb3.block w1.heap.size (Array.getElem?_eq_some_iff.1 hpr2).1).trans hpr2
            have hbl3 : Below w.heap.size w w3 := bThen hbl2 hb3
            have hz3 := hbl3.size
            clear hb3
            go_wp2_with (fail)
            refine (getRow_is (hb.below hbl3) (by omega) (by omega) V.out.2.2.1).mono ?_
            rintro e w4 ⟨A4, c4, rfl, ho4, hb4⟩
            have hri4 : rowIs w4 w.heap.size 37 := hri3.below hb4
            have hpr4 := (hb4.block w1.heap.size (Array.getElem?_eq_some_iff.1 hpr3).1).trans hpr3
            have hbl4 : Below w.heap.size w w4 := bThen hbl3 hb4
            have hz4 := hbl4.size
            have hown := OwnN.mono ho4 hz3
            have hlt4 := OwnN.lt ho4
            have hrng : w4.rangeAt w1.heap.size 0 (pc pt) := by
              intro j v hv
              rw [Nat.zero_add, (row_cells hpr4 j).1]
              simpa using hv
            have hh := hasAt_of hrng (pc_length hpt)
            have hcl := cellsAt_of hrng (pc_length hpt)
            have hmk := mkCn_cc ⟨⟨pt, x, r, l⟩, A4, c4⟩
            simp only at hmk
            have hokC := cc_ok (m := ⟨⟨pt, x, r, l⟩, A4, c4⟩) hpt
            obtain ⟨t, hrow⟩ := row_set hri4 (cc ⟨⟨pt, x, r, l⟩, A4, c4⟩).toArray
            have hown2 : OwnB (w4.setRow w.heap.size (cc ⟨⟨pt, x, r, l⟩, A4, c4⟩).toArray) w.heap.size A4 l.length c4 l :=
              Own.keep hown fun k hk => setRow_other _ _ _ _ (fun e => by have := (hlt4 k hk).1; have := hri3.lt; omega)
            have RW := Lib.hid (And.intro hrow hown2)
            have BL := Lib.hid hbl4
            clear hrow hbl4 hb4 ho4 hown hlt4 hrng hpr4 hpr3 hpr2 hown2
            go_wp2_with (fail)
            refine bodyPost_ret (res_cell3 Try.results63 rfl (rd_coin _ _ _ _ RW.out.1 hokC.1)) rfl ?_
            exact ⟨A4, c4, rfl, RW.out.2, below_setRow BL.out (Nat.le_refl _) hz4 _⟩
          · have hc : getCF b at_ = (zeroCn, 0, e4) := by unfold getCF; rw [hp, if_pos rfl, hv, if_pos rfl, e46, hy, if_pos rfl, if_neg hy1, e47, hl, if_neg he4]
            have hp0 : l = [] := by have := getRowF_err (b := b) (at_ := at_ + 38 + 8 + 1) (most := 100) (by rw [hl]; exact he4); rw [hl] at this; exact this
            subst hp0
            rw [hc]
            have d4 : (e4 != 0) = true := by rw [bne_iff_ne]; exact he4
            have V := Lib.hid (And.intro hv (And.intro hy (And.intro hl trivial)))
            clear hv hy hp hc e46 e47 hl hr2 he4 
            go_enter Try.func63, Try.ntmps63
            go_wp2_with (fail)
            refine (PT.out _ (hb.below ((Below.refl w.heap.size w).alloc (Nat.le_refl _) _))).mono ?_
            rintro e w1 ⟨rfl, hb1⟩
            have hri : rowIs w1 w.heap.size 37 := (rowIs_of (heap_alloc_new w _) rfl).below hb1
            have hbl : Below w.heap.size w w1 := ((Below.refl w.heap.size w).alloc (Nat.le_refl _) _).trans (hb1.mono (by simp))
            have hz := hbl.size
            have hne : w.heap.size ≠ w1.heap.size := Nat.ne_of_lt hri.lt
            clear hb1
            go_wp2_with (fail)
            refine (value_is (hb.below (below_setRow (belA hbl _ (Nat.le_refl _)) hz (by simp; omega) _)) (by omega) V.out.1).mono ?_
            rintro e w2 ⟨rfl, hb2⟩
            have hri2 : rowIs w2 w.heap.size 37 := ((hri.alloc _).setRow w1.heap.size _ hne).below hb2
            have hpr2 := (hb2.block w1.heap.size (Array.getElem?_eq_some_iff.1 (setRow_heap _ w1.heap.size _ _ _ _ (heap_alloc_new w1 _))).1).trans (setRow_heap _ w1.heap.size _ _ _ _ (heap_alloc_new w1 _))
            have hbl2 : Below w.heap.size w w2 := bThen (below_setRow (belA hbl _ (Nat.le_refl _)) hz (by simp; omega) _) hb2
            have hz2 := hbl2.size
            clear hb2
            go_wp2_with (fail)
            refine (get_is (hb.below hbl2) (by omega) (by omega) V.out.2.1).mono ?_
            rintro e w3 ⟨rfl, hb3⟩
            have hri3 : rowIs w3 w.heap.size 37 := hri2.below hb3
            have hpr3 := (hb3.block w1.heap.size (Array.getElem?_eq_some_iff.1 hpr2).1).trans hpr2
            have hbl3 : Below w.heap.size w w3 := bThen hbl2 hb3
            have hz3 := hbl3.size
            clear hb3
            go_wp2_with (fail)
            refine (getRow_is (hb.below hbl3) (by omega) (by omega) V.out.2.2.1).mono ?_
            rintro e w4 ⟨A4, c4, rfl, ho4, hb4⟩
            clear ho4
            have hri := hri3.below hb4
            have hbl := bThen hbl3 hb4
            have hz := hbl.size
            obtain ⟨t, hrow⟩ := row_set hri (cc ⟨zeroCn, none, 0⟩).toArray
            have RW := Lib.hid hrow
            have BL := Lib.hid hbl
            clear hrow hbl
            go_wp2_with (fail)
            refine bodyPost_ret (res_cell3 Try.results63 rfl (rd_coin _ _ _ _ RW.out hokZ.1)) rfl ?_
            exact ⟨none, 0, rfl, OwnN.nil _ _ _ _, below_setRow BL.out (Nat.le_refl _) hz _⟩
      · have hc : getCF b at_ = (zeroCn, 0, e3) := by unfold getCF; rw [hp, if_pos rfl, hv, if_pos rfl, e46, hy, if_neg he3]
        rw [hc]
        have d3 : (e3 != 0) = true := by rw [bne_iff_ne]; exact he3
        have d3' : (e3 == 0) = false := beq_eq_false_iff_ne.2 he3
        have V := Lib.hid (And.intro hv (And.intro hy trivial))
        clear hv hy hp hc e46 e47 he3 
        go_enter Try.func63, Try.ntmps63
        go_wp2_with (fail)
        refine (PT.out _ (hb.below ((Below.refl w.heap.size w).alloc (Nat.le_refl _) _))).mono ?_
        rintro e w1 ⟨rfl, hb1⟩
        have hri : rowIs w1 w.heap.size 37 := (rowIs_of (heap_alloc_new w _) rfl).below hb1
        have hbl : Below w.heap.size w w1 := ((Below.refl w.heap.size w).alloc (Nat.le_refl _) _).trans (hb1.mono (by simp))
        have hz := hbl.size
        have hne : w.heap.size ≠ w1.heap.size := Nat.ne_of_lt hri.lt
        clear hb1
        go_wp2_with (fail)
        refine (value_is (hb.below (below_setRow (belA hbl _ (Nat.le_refl _)) hz (by simp; omega) _)) (by omega) V.out.1).mono ?_
        rintro e w2 ⟨rfl, hb2⟩
        have hri2 : rowIs w2 w.heap.size 37 := ((hri.alloc _).setRow w1.heap.size _ hne).below hb2
        have hpr2 := (hb2.block w1.heap.size (Array.getElem?_eq_some_iff.1 (setRow_heap _ w1.heap.size _ _ _ _ (heap_alloc_new w1 _))).1).trans (setRow_heap _ w1.heap.size _ _ _ _ (heap_alloc_new w1 _))
        have hbl2 : Below w.heap.size w w2 := bThen (below_setRow (belA hbl _ (Nat.le_refl _)) hz (by simp; omega) _) hb2
        have hz2 := hbl2.size
        clear hb2
        go_wp2_with (fail)
        refine (get_is (hb.below hbl2) (by omega) (by omega) V.out.2.1).mono ?_
        rintro e w3 ⟨rfl, hb3⟩
        have hri3 : rowIs w3 w.heap.size 37 := hri2.below hb3
        have hpr3 := (hb3.block w1.heap.size (Array.getElem?_eq_some_iff.1 hpr2).1).trans hpr2
        have hbl3 : Below w.heap.size w w3 := bThen hbl2 hb3
        have hz3 := hbl3.size
        clear hb3
        have hri := hri3
        have hbl := hbl3
        have hz := hbl.size
        obtain ⟨t, hrow⟩ := row_set hri (cc ⟨zeroCn, none, 0⟩).toArray
        have RW := Lib.hid hrow
        have BL := Lib.hid hbl
        clear hrow hbl
        go_wp2_with (fail)
        refine bodyPost_ret (res_cell3 Try.results63 rfl (rd_coin _ _ _ _ RW.out hokZ.1)) rfl ?_
        exact ⟨none, 0, rfl, OwnN.nil _ _ _ _, below_setRow BL.out (Nat.le_refl _) hz _⟩
    · have hc : getCF b at_ = (zeroCn, 0, e2) := by unfold getCF; rw [hp, if_pos rfl, hv, if_neg he2]
      rw [hc]
      have d2 : (e2 != 0) = true := by rw [bne_iff_ne]; exact he2
      have V := Lib.hid (And.intro hv trivial)
      clear hv hp hc e46 e47 he2
      go_enter Try.func63, Try.ntmps63
      go_wp2_with (fail)
      refine (PT.out _ (hb.below ((Below.refl w.heap.size w).alloc (Nat.le_refl _) _))).mono ?_
      rintro e w1 ⟨rfl, hb1⟩
      have hri : rowIs w1 w.heap.size 37 := (rowIs_of (heap_alloc_new w _) rfl).below hb1
      have hbl : Below w.heap.size w w1 := ((Below.refl w.heap.size w).alloc (Nat.le_refl _) _).trans (hb1.mono (by simp))
      have hz := hbl.size
      have hne : w.heap.size ≠ w1.heap.size := Nat.ne_of_lt hri.lt
      clear hb1
      go_wp2_with (fail)
      refine (value_is (hb.below (below_setRow (belA hbl _ (Nat.le_refl _)) hz (by simp; omega) _)) (by omega) V.out.1).mono ?_
      rintro e w2 ⟨rfl, hb2⟩
      have hri2 : rowIs w2 w.heap.size 37 := ((hri.alloc _).setRow w1.heap.size _ hne).below hb2
      have hpr2 := (hb2.block w1.heap.size (Array.getElem?_eq_some_iff.1 (setRow_heap _ w1.heap.size _ _ _ _ (heap_alloc_new w1 _))).1).trans (setRow_heap _ w1.heap.size _ _ _ _ (heap_alloc_new w1 _))
      have hbl2 : Below w.heap.size w w2 := bThen (below_setRow (belA hbl _ (Nat.le_refl _)) hz (by simp; omega) _) hb2
      have hz2 := hbl2.size
      clear hb2
      have hri := hri2
      have hbl := hbl2
      have hz := hbl.size
      obtain ⟨t, hrow⟩ := row_set hri (cc ⟨zeroCn, none, 0⟩).toArray
      have RW := Lib.hid hrow
      have BL := Lib.hid hbl
      clear hrow hbl
      go_wp2_with (fail)
      refine bodyPost_ret (res_cell3 Try.results63 rfl (rd_coin _ _ _ _ RW.out hokZ.1)) rfl ?_
      exact ⟨none, 0, rfl, OwnN.nil _ _ _ _, below_setRow BL.out (Nat.le_refl _) hz _⟩

  · have hc : getCF b at_ = (zeroCn, 0, q) := by unfold getCF; rw [hp, if_neg hq]
    rw [hc]
    have d1 : (q != 0) = true := by rw [bne_iff_ne]; exact hq
    clear hp hc e46 e47 hq
    go_enter Try.func63, Try.ntmps63
    go_wp2_with (fail)
    refine (PT.out _ (hb.below ((Below.refl w.heap.size w).alloc (Nat.le_refl _) _))).mono ?_
    rintro e w1 ⟨rfl, hb1⟩
    have hri : rowIs w1 w.heap.size 37 := (rowIs_of (heap_alloc_new w _) rfl).below hb1
    have hbl : Below w.heap.size w w1 := ((Below.refl w.heap.size w).alloc (Nat.le_refl _) _).trans (hb1.mono (by simp))
    have hz := hbl.size
    have hne : w.heap.size ≠ w1.heap.size := Nat.ne_of_lt hri.lt
    clear hb1
    go_wp2_with (fail)
    refine bodyPost_ret (res_cell3 Try.results63 rfl (rd_coin_set ((hri.alloc _).setRow w1.heap.size _ hne) hokZ.1)) rfl ?_
    exact ⟨none, 0, rfl, OwnN.nil _ _ _ _, below_setRow (below_setRow (belA hbl _ (Nat.le_refl _)) hz (by simp; omega) _) (Nat.le_refl _) (by simp; omega) _⟩

set_option maxRecDepth 10000 in
set_option maxHeartbeats 2000000 in
theorem rgetC_any (A : Option Addr) (n c : Nat) (b : List Int) (at_ : Int) (w : World) (hb : Arg w A n c b) (ha : -9223372036854775808 ≤ at_ ∧ at_ ≤ 9223372036854775807) :
    Calls Try.prog 79 #[.slice A n c, .int .i64 at_] w fun e w' => ∃ A' k, e = .returned (.tuple #[.agg (cc ⟨(getCF b at_).1, A', k⟩).toArray, .int .i64 (getCF b at_).2.1, .int .i64 (getCF b at_).2.2]) ∧ OwnB w' w.heap.size A' (getCF b at_).1.l.length k (getCF b at_).1.l ∧ Below w.heap.size w w' := by
  have hlen := hb.rd.len
  have hn := hb.len
  have e46 : at_ + 46 = at_ + 38 + 8 := by omega
  have e47 : at_ + 47 = at_ + 38 + 9 := by omega
  obtain ⟨pt, nx, q, hp⟩ : ∃ pt nx q, getPF b at_ = (pt, nx, q) := ⟨_, _, _, rfl⟩
  have hpt := getPF_pt hb.isB at_
  rw [hp] at hpt
  have PT := fun w' (h : Arg w' A n c b) => rgetPoint_any A n c b at_ w' h ha
  rw [hp] at PT
  have PT := Lib.hid PT
  have hokP := pc_ok hpt
  have hokZ := cc_ok (m := ⟨zeroCn, none, 0⟩) zeroPt_ok
  simp only at hokP
  by_cases hq : q = 0
  · subst hq
    obtain ⟨hi1, hi2, rfl⟩ := getPF_in hp
    obtain ⟨x, e2, hv⟩ : ∃ x e, valueF b (at_ + 38) = (x, e) := ⟨_, _, rfl⟩
    have hxb := valueF_bd hb.isB (at_ + 38)
    rw [hv] at hxb
    have hxb0 : 0 ≤ x := hxb.1
    have i38 : at_ + 38 + 38 ≤ 9223372036854775807 := by omega
    obtain ⟨x', q', hg⟩ : ∃ x q, getF b (at_ + 38) 8 = (x, q) := ⟨_, _, rfl⟩
    have hvg := hv
    unfold valueF at hvg
    rw [hg] at hvg
    simp only at hvg
    by_cases he2 : e2 = 0
    · subst he2
      have hin := valueF_in hv
      have hin2 := hin.2.1
      have hx2 : x ≤ 1125899906842624 := hin.2.2
      have hvv : x' = x ∧ q' = 0 := by
        split at hvg
        · injection hvg with _ h; exact absurd h (by decide)
        · injection hvg with h1 h2; exact ⟨h1, h2⟩
      obtain ⟨rfl, rfl⟩ := hvv
      have dm : decide (x' > 1125899906842624) = false := decide_eq_false (by omega)
      obtain ⟨y, e3, hy⟩ : ∃ x e, getF b (at_ + 38 + 8) 1 = (x, e) := ⟨_, _, rfl⟩
      have hyb := getF1_bd hb.isB hy
      by_cases he3 : e3 = 0
      · subst he3
        by_cases hy1 : 1 < y
        · have hc : getCF b at_ = (zeroCn, 0, 5) := by unfold getCF; rw [hp, if_pos rfl, hv, if_pos rfl, e46, hy, if_pos rfl, if_pos hy1]
          rw [hc]
          have dy : decide (y > 1) = true := decide_eq_true hy1
          have V := Lib.hid (And.intro hg (And.intro hy trivial))
          clear hv hy hp hc e46 e47 hvg hg
          go_enter Try.func79, Try.ntmps79
          go_wp2_with (fail)
          refine (PT.out _ (hb.below ((Below.refl w.heap.size w).alloc (Nat.le_refl _) _))).mono ?_
          rintro e w1 ⟨rfl, hb1⟩
          have hri : rowIs w1 w.heap.size 37 := (rowIs_of (heap_alloc_new w _) rfl).below hb1
          have hbl : Below w.heap.size w w1 := ((Below.refl w.heap.size w).alloc (Nat.le_refl _) _).trans (hb1.mono (by simp))
          have hz := hbl.size
          have hne : w.heap.size ≠ w1.heap.size := Nat.ne_of_lt hri.lt
          clear hb1
          go_wp2_with (fail)
          refine (rget_is (hb.below (below_setRow (belA hbl _ (Nat.le_refl _)) hz (by simp; omega) _)) (by omega) (by omega) V.out.1).mono ?_
          rintro e w2 ⟨rfl, hb2⟩
          have hri2 : rowIs w2 w.heap.size 37 := ((hri.alloc _).setRow w1.heap.size _ hne).below hb2
          have hpr2 := (hb2.block w1.heap.size (Array.getElem?_eq_some_iff.1 (setRow_heap _ w1.heap.size _ _ _ _ (heap_alloc_new w1 _))).1).trans (setRow_heap _ w1.heap.size _ _ _ _ (heap_alloc_new w1 _))
          have hbl2 : Below w.heap.size w w2 := bThen (below_setRow (belA hbl _ (Nat.le_refl _)) hz (by simp; omega) _) hb2
          have hz2 := hbl2.size
          clear hb2
          go_wp2_with (fail)
          refine (rget_is (hb.below hbl2) (by omega) (by omega) V.out.2.1).mono ?_
          rintro e w3 ⟨rfl, hb3⟩
          have hri3 : rowIs w3 w.heap.size 37 := hri2.below hb3
          have hpr3 := (hb3.block w1.heap.size (Array.getElem?_eq_some_iff.1 hpr2).1).trans hpr2
          have hbl3 : Below w.heap.size w w3 := bThen hbl2 hb3
          have hz3 := hbl3.size
          clear hb3
          have hri := hri3
          have hbl := hbl3
          have hz := hbl.size
          obtain ⟨t, hrow⟩ := row_set hri (cc ⟨zeroCn, none, 0⟩).toArray
          have RW := Lib.hid hrow
          have BL := Lib.hid hbl
          clear hrow hbl
          go_wp2_with (fail)
          refine bodyPost_ret (res_cell3 Try.results79 rfl (rd_coin _ _ _ _ RW.out hokZ.1)) rfl ?_
          exact ⟨none, 0, rfl, OwnN.nil _ _ _ _, below_setRow BL.out (Nat.le_refl _) hz _⟩
        · have dy : decide (y > 1) = false := decide_eq_false hy1
          obtain ⟨r, hr⟩ : ∃ r, (y == 1) = r := ⟨_, rfl⟩
          have hr2 : decide (y = 1) = r := by rw [← hr]; cases h : (y == 1) <;> simp_all
          obtain ⟨l, nx2, e4, hl⟩ : ∃ p nx e, getRowF b (at_ + 38 + 9) 100 = (p, nx, e) := ⟨_, _, _, rfl⟩
          have hls := getRowF_small hl
          by_cases he4 : e4 = 0
          · subst he4
            have hc : getCF b at_ = (⟨pt, x', r, l⟩, nx2, 0) := by unfold getCF; rw [hp, if_pos rfl, hv, if_pos rfl, e46, hy, if_pos rfl, if_neg hy1, e47, hl, if_pos rfl, hr2]
            rw [hc]
            have V := Lib.hid (And.intro hg (And.intro hy (And.intro hl trivial)))
            clear hv hy hp hc e46 e47 hl hr2 hvg hg
            have hsz := hokP.1
            go_enter Try.func79, Try.ntmps79
            go_wp2_with (fail)
            refine (PT.out _ (hb.below ((Below.refl w.heap.size w).alloc (Nat.le_refl _) _))).mono ?_
            rintro e w1 ⟨rfl, hb1⟩
            have hri : rowIs w1 w.heap.size 37 := (rowIs_of (heap_alloc_new w _) rfl).below hb1
            have hbl : Below w.heap.size w w1 := ((Below.refl w.heap.size w).alloc (Nat.le_refl _) _).trans (hb1.mono (by simp))
            have hz := hbl.size
            have hne : w.heap.size ≠ w1.heap.size := Nat.ne_of_lt hri.lt
            clear hb1
            go_wp2_with (fail)
            refine (rget_is (hb.below (below_setRow (belA hbl _ (Nat.le_refl _)) hz (by simp; omega) _)) (by omega) (by omega) V.out.1).mono ?_
            rintro e w2 ⟨rfl, hb2⟩
            have hri2 : rowIs w2 w.heap.size 37 := ((hri.alloc _).setRow w1.heap.size _ hne).below hb2
            have hpr2 := (hb2.block w1.heap.size (Array.getElem?_eq_some_iff.1 (setRow_heap _ w1.heap.size _ _ _ _ (heap_alloc_new w1 _))).1).trans (setRow_heap _ w1.heap.size _ _ _ _ (heap_alloc_new w1 _))
            have hbl2 : Below w.heap.size w w2 := bThen (below_setRow (belA hbl _ (Nat.le_refl _)) hz (by simp; omega) _) hb2
            have hz2 := hbl2.size
            clear hb2
            go_wp2_with (fail)
            refine (rget_is (hb.below hbl2) (by omega) (by omega) V.out.2.1).mono ?_
            rintro e w3 ⟨rfl, hb3⟩
            have hri3 : rowIs w3 w.heap.size 37 := hri2.below hb3
            have hpr3 := (hb3.block w1.heap.size (Array.getElem?_eq_some_iff.1 hpr2).1).trans hpr2
            have hbl3 : Below w.heap.size w w3 := bThen hbl2 hb3
            have hz3 := hbl3.size
            clear hb3
            go_wp2_with (fail)
            refine (rgetRow_is (hb.below hbl3) (by omega) (by omega) V.out.2.2.1).mono ?_
            rintro e w4 ⟨A4, c4, rfl, ho4, hb4⟩
            have hri4 : rowIs w4 w.heap.size 37 := hri3.below hb4
            have hpr4 := (hb4.block w1.heap.size (Array.getElem?_eq_some_iff.1 hpr3).1).trans hpr3
            have hbl4 : Below w.heap.size w w4 := bThen hbl3 hb4
            have hz4 := hbl4.size
            have hown := OwnN.mono ho4 hz3
            have hlt4 := OwnN.lt ho4
            have hrng : w4.rangeAt w1.heap.size 0 (pc pt) := by
              intro j v hv
              rw [Nat.zero_add, (row_cells hpr4 j).1]
              simpa using hv
            have hh := hasAt_of hrng (pc_length hpt)
            have hcl := cellsAt_of hrng (pc_length hpt)
            have hmk := mkCn_cc ⟨⟨pt, x', r, l⟩, A4, c4⟩
            simp only at hmk
            have hokC := cc_ok (m := ⟨⟨pt, x', r, l⟩, A4, c4⟩) hpt
            obtain ⟨t, hrow⟩ := row_set hri4 (cc ⟨⟨pt, x', r, l⟩, A4, c4⟩).toArray
            have hown2 : OwnB (w4.setRow w.heap.size (cc ⟨⟨pt, x', r, l⟩, A4, c4⟩).toArray) w.heap.size A4 l.length c4 l :=
              Own.keep hown fun k hk => setRow_other _ _ _ _ (fun e => by have := (hlt4 k hk).1; have := hri3.lt; omega)
            have RW := Lib.hid (And.intro hrow hown2)
            have BL := Lib.hid hbl4
            clear hrow hbl4 hb4 ho4 hown hlt4 hrng hpr4 hpr3 hpr2 hown2
            go_wp2_with (fail)
            refine bodyPost_ret (res_cell3 Try.results79 rfl (rd_coin _ _ _ _ RW.out.1 hokC.1)) rfl ?_
            exact ⟨A4, c4, rfl, RW.out.2, below_setRow BL.out (Nat.le_refl _) hz4 _⟩
          · have hc : getCF b at_ = (zeroCn, 0, e4) := by unfold getCF; rw [hp, if_pos rfl, hv, if_pos rfl, e46, hy, if_pos rfl, if_neg hy1, e47, hl, if_neg he4]
            have hp0 : l = [] := by have := getRowF_err (b := b) (at_ := at_ + 38 + 9) (most := 100) (by rw [hl]; exact he4); rw [hl] at this; exact this
            subst hp0
            rw [hc]
            have d4 : (e4 != 0) = true := by rw [bne_iff_ne]; exact he4
            have V := Lib.hid (And.intro hg (And.intro hy (And.intro hl trivial)))
            clear hv hy hp hc e46 e47 hl hr2 he4 hvg hg
            go_enter Try.func79, Try.ntmps79
            go_wp2_with (fail)
            refine (PT.out _ (hb.below ((Below.refl w.heap.size w).alloc (Nat.le_refl _) _))).mono ?_
            rintro e w1 ⟨rfl, hb1⟩
            have hri : rowIs w1 w.heap.size 37 := (rowIs_of (heap_alloc_new w _) rfl).below hb1
            have hbl : Below w.heap.size w w1 := ((Below.refl w.heap.size w).alloc (Nat.le_refl _) _).trans (hb1.mono (by simp))
            have hz := hbl.size
            have hne : w.heap.size ≠ w1.heap.size := Nat.ne_of_lt hri.lt
            clear hb1
            go_wp2_with (fail)
            refine (rget_is (hb.below (below_setRow (belA hbl _ (Nat.le_refl _)) hz (by simp; omega) _)) (by omega) (by omega) V.out.1).mono ?_
            rintro e w2 ⟨rfl, hb2⟩
            have hri2 : rowIs w2 w.heap.size 37 := ((hri.alloc _).setRow w1.heap.size _ hne).below hb2
            have hpr2 := (hb2.block w1.heap.size (Array.getElem?_eq_some_iff.1 (setRow_heap _ w1.heap.size _ _ _ _ (heap_alloc_new w1 _))).1).trans (setRow_heap _ w1.heap.size _ _ _ _ (heap_alloc_new w1 _))
            have hbl2 : Below w.heap.size w w2 := bThen (below_setRow (belA hbl _ (Nat.le_refl _)) hz (by simp; omega) _) hb2
            have hz2 := hbl2.size
            clear hb2
            go_wp2_with (fail)
            refine (rget_is (hb.below hbl2) (by omega) (by omega) V.out.2.1).mono ?_
            rintro e w3 ⟨rfl, hb3⟩
            have hri3 : rowIs w3 w.heap.size 37 := hri2.below hb3
            have hpr3 := (hb3.block w1.heap.size (Array.getElem?_eq_some_iff.1 hpr2).1).trans hpr2
            have hbl3 : Below w.heap.size w w3 := bThen hbl2 hb3
            have hz3 := hbl3.size
            clear hb3
            go_wp2_with (fail)
            refine (rgetRow_is (hb.below hbl3) (by omega) (by omega) V.out.2.2.1).mono ?_
            rintro e w4 ⟨A4, c4, rfl, ho4, hb4⟩
            clear ho4
            have hri := hri3.below hb4
            have hbl := bThen hbl3 hb4
            have hz := hbl.size
            obtain ⟨t, hrow⟩ := row_set hri (cc ⟨zeroCn, none, 0⟩).toArray
            have RW := Lib.hid hrow
            have BL := Lib.hid hbl
            clear hrow hbl
            go_wp2_with (fail)
            refine bodyPost_ret (res_cell3 Try.results79 rfl (rd_coin _ _ _ _ RW.out hokZ.1)) rfl ?_
            exact ⟨none, 0, rfl, OwnN.nil _ _ _ _, below_setRow BL.out (Nat.le_refl _) hz _⟩
      · have hc : getCF b at_ = (zeroCn, 0, e3) := by unfold getCF; rw [hp, if_pos rfl, hv, if_pos rfl, e46, hy, if_neg he3]
        rw [hc]
        have d3 : (e3 != 0) = true := by rw [bne_iff_ne]; exact he3
        have d3' : (e3 == 0) = false := beq_eq_false_iff_ne.2 he3
        have V := Lib.hid (And.intro hg (And.intro hy trivial))
        clear hv hy hp hc e46 e47 he3 hvg hg
        go_enter Try.func79, Try.ntmps79
        go_wp2_with (fail)
        refine (PT.out _ (hb.below ((Below.refl w.heap.size w).alloc (Nat.le_refl _) _))).mono ?_
        rintro e w1 ⟨rfl, hb1⟩
        have hri : rowIs w1 w.heap.size 37 := (rowIs_of (heap_alloc_new w _) rfl).below hb1
        have hbl : Below w.heap.size w w1 := ((Below.refl w.heap.size w).alloc (Nat.le_refl _) _).trans (hb1.mono (by simp))
        have hz := hbl.size
        have hne : w.heap.size ≠ w1.heap.size := Nat.ne_of_lt hri.lt
        clear hb1
        go_wp2_with (fail)
        refine (rget_is (hb.below (below_setRow (belA hbl _ (Nat.le_refl _)) hz (by simp; omega) _)) (by omega) (by omega) V.out.1).mono ?_
        rintro e w2 ⟨rfl, hb2⟩
        have hri2 : rowIs w2 w.heap.size 37 := ((hri.alloc _).setRow w1.heap.size _ hne).below hb2
        have hpr2 := (hb2.block w1.heap.size (Array.getElem?_eq_some_iff.1 (setRow_heap _ w1.heap.size _ _ _ _ (heap_alloc_new w1 _))).1).trans (setRow_heap _ w1.heap.size _ _ _ _ (heap_alloc_new w1 _))
        have hbl2 : Below w.heap.size w w2 := bThen (below_setRow (belA hbl _ (Nat.le_refl _)) hz (by simp; omega) _) hb2
        have hz2 := hbl2.size
        clear hb2
        go_wp2_with (fail)
        refine (rget_is (hb.below hbl2) (by omega) (by omega) V.out.2.1).mono ?_
        rintro e w3 ⟨rfl, hb3⟩
        have hri3 : rowIs w3 w.heap.size 37 := hri2.below hb3
        have hpr3 := (hb3.block w1.heap.size (Array.getElem?_eq_some_iff.1 hpr2).1).trans hpr2
        have hbl3 : Below w.heap.size w w3 := bThen hbl2 hb3
        have hz3 := hbl3.size
        clear hb3
        have hri := hri3
        have hbl := hbl3
        have hz := hbl.size
        obtain ⟨t, hrow⟩ := row_set hri (cc ⟨zeroCn, none, 0⟩).toArray
        have RW := Lib.hid hrow
        have BL := Lib.hid hbl
        clear hrow hbl
        go_wp2_with (fail)
        refine bodyPost_ret (res_cell3 Try.results79 rfl (rd_coin _ _ _ _ RW.out hokZ.1)) rfl ?_
        exact ⟨none, 0, rfl, OwnN.nil _ _ _ _, below_setRow BL.out (Nat.le_refl _) hz _⟩
    · have hc : getCF b at_ = (zeroCn, 0, e2) := by unfold getCF; rw [hp, if_pos rfl, hv, if_neg he2]
      rw [hc]
      have V := Lib.hid (And.intro hg trivial)
      have hxb' := getF_bound hb.isB (at_ + 38) 8
      rw [hg] at hxb'
      have hxb1 : 0 ≤ x' := hxb'.1
      clear hxb'
      by_cases hq' : q' = 0
      · have hxm : 1125899906842624 < x' := by
          by_cases hm : maxM < x'
          · exact hm
          · rw [if_neg (fun h => hm h.2)] at hvg; injection hvg with _ h; exact absurd (h.symm.trans hq') he2
        have hq5 : e2 = 5 := by rw [if_pos ⟨hq', hxm⟩] at hvg; injection hvg with _ h; exact h.symm
        subst hq5
        have d2 : (q' != 0) = false := by rw [bne_eq_false_iff_eq]; exact hq'
        have dm : decide (x' > 1125899906842624) = true := decide_eq_true hxm
        clear hv hp hc e46 e47 he2 hg hvg hq'
        go_enter Try.func79, Try.ntmps79
        go_wp2_with (fail)
        refine (PT.out _ (hb.below ((Below.refl w.heap.size w).alloc (Nat.le_refl _) _))).mono ?_
        rintro e w1 ⟨rfl, hb1⟩
        have hri : rowIs w1 w.heap.size 37 := (rowIs_of (heap_alloc_new w _) rfl).below hb1
        have hbl : Below w.heap.size w w1 := ((Below.refl w.heap.size w).alloc (Nat.le_refl _) _).trans (hb1.mono (by simp))
        have hz := hbl.size
        have hne : w.heap.size ≠ w1.heap.size := Nat.ne_of_lt hri.lt
        clear hb1
        go_wp2_with (fail)
        refine (rget_is (hb.below (below_setRow (belA hbl _ (Nat.le_refl _)) hz (by simp; omega) _)) (by omega) (by omega) V.out.1).mono ?_
        rintro e w2 ⟨rfl, hb2⟩
        have hri2 : rowIs w2 w.heap.size 37 := ((hri.alloc _).setRow w1.heap.size _ hne).below hb2
        have hpr2 := (hb2.block w1.heap.size (Array.getElem?_eq_some_iff.1 (setRow_heap _ w1.heap.size _ _ _ _ (heap_alloc_new w1 _))).1).trans (setRow_heap _ w1.heap.size _ _ _ _ (heap_alloc_new w1 _))
        have hbl2 : Below w.heap.size w w2 := bThen (below_setRow (belA hbl _ (Nat.le_refl _)) hz (by simp; omega) _) hb2
        have hz2 := hbl2.size
        clear hb2
        have hri := hri2
        have hbl := hbl2
        have hz := hbl.size
        obtain ⟨t, hrow⟩ := row_set hri (cc ⟨zeroCn, none, 0⟩).toArray
        have RW := Lib.hid hrow
        have BL := Lib.hid hbl
        clear hrow hbl
        go_wp2_with (fail)
        refine bodyPost_ret (res_cell3 Try.results79 rfl (rd_coin _ _ _ _ RW.out hokZ.1)) rfl ?_
        exact ⟨none, 0, rfl, OwnN.nil _ _ _ _, below_setRow BL.out (Nat.le_refl _) hz _⟩
      · have hqq : q' = e2 := by rw [if_neg (fun h => hq' h.1)] at hvg; injection hvg with _ h
        subst hqq
        have d2 : (q' != 0) = true := by rw [bne_iff_ne]; exact hq'
        clear hv hp hc e46 e47 he2 hg hvg hq'
        go_enter Try.func79, Try.ntmps79
        go_wp2_with (fail)
        refine (PT.out _ (hb.below ((Below.refl w.heap.size w).alloc (Nat.le_refl _) _))).mono ?_
        rintro e w1 ⟨rfl, hb1⟩
        have hri : rowIs w1 w.heap.size 37 := (rowIs_of (heap_alloc_new w _) rfl).below hb1
        have hbl : Below w.heap.size w w1 := ((Below.refl w.heap.size w).alloc (Nat.le_refl _) _).trans (hb1.mono (by simp))
        have hz := hbl.size
        have hne : w.heap.size ≠ w1.heap.size := Nat.ne_of_lt hri.lt
        clear hb1
        go_wp2_with (fail)
        refine (rget_is (hb.below (below_setRow (belA hbl _ (Nat.le_refl _)) hz (by simp; omega) _)) (by omega) (by omega) V.out.1).mono ?_
        rintro e w2 ⟨rfl, hb2⟩
        have hri2 : rowIs w2 w.heap.size 37 := ((hri.alloc _).setRow w1.heap.size _ hne).below hb2
        have hpr2 := (hb2.block w1.heap.size (Array.getElem?_eq_some_iff.1 (setRow_heap _ w1.heap.size _ _ _ _ (heap_alloc_new w1 _))).1).trans (setRow_heap _ w1.heap.size _ _ _ _ (heap_alloc_new w1 _))
        have hbl2 : Below w.heap.size w w2 := bThen (below_setRow (belA hbl _ (Nat.le_refl _)) hz (by simp; omega) _) hb2
        have hz2 := hbl2.size
        clear hb2
        have hri := hri2
        have hbl := hbl2
        have hz := hbl.size
        obtain ⟨t, hrow⟩ := row_set hri (cc ⟨zeroCn, none, 0⟩).toArray
        have RW := Lib.hid hrow
        have BL := Lib.hid hbl
        clear hrow hbl
        go_wp2_with (fail)
        refine bodyPost_ret (res_cell3 Try.results79 rfl (rd_coin _ _ _ _ RW.out hokZ.1)) rfl ?_
        exact ⟨none, 0, rfl, OwnN.nil _ _ _ _, below_setRow BL.out (Nat.le_refl _) hz _⟩

  · have hc : getCF b at_ = (zeroCn, 0, q) := by unfold getCF; rw [hp, if_neg hq]
    rw [hc]
    have d1 : (q != 0) = true := by rw [bne_iff_ne]; exact hq
    clear hp hc e46 e47 hq
    go_enter Try.func79, Try.ntmps79
    go_wp2_with (fail)
    refine (PT.out _ (hb.below ((Below.refl w.heap.size w).alloc (Nat.le_refl _) _))).mono ?_
    rintro e w1 ⟨rfl, hb1⟩
    have hri : rowIs w1 w.heap.size 37 := (rowIs_of (heap_alloc_new w _) rfl).below hb1
    have hbl : Below w.heap.size w w1 := ((Below.refl w.heap.size w).alloc (Nat.le_refl _) _).trans (hb1.mono (by simp))
    have hz := hbl.size
    have hne : w.heap.size ≠ w1.heap.size := Nat.ne_of_lt hri.lt
    clear hb1
    go_wp2_with (fail)
    refine bodyPost_ret (res_cell3 Try.results79 rfl (rd_coin_set ((hri.alloc _).setRow w1.heap.size _ hne) hokZ.1)) rfl ?_
    exact ⟨none, 0, rfl, OwnN.nil _ _ _ _, below_setRow (below_setRow (belA hbl _ (Nat.le_refl _)) hz (by simp; omega) _) (Nat.le_refl _) (by simp; omega) _⟩
end Go.Proofs.Ytofclanljhfkiaa
/- What Read answers, in the program and in the reference; what a coin that was got is good for. -/
namespace Go.Proofs.Ytofclanljhfkiaa
open Go.RowKit Go.Proofs En Co
set_option linter.unusedVariables false
set_option linter.unusedSimpArgs false
set_option maxRecDepth 20000
attribute [local go_sem ↓] ld_point_eq ld_coin_eq ld_hash_eq st_point_eq st_coin_eq bd_point_eq bd_coin_eq
attribute [local go_sem] ld_point_run ld_coin_run ld_hash_run st_point_run st_coin_run bd_point_zero bd_coin_zero bd_point_of bd_coin_of hash_at rowIs_34 rowIs_37 rowIs_both

theorem both_row (w : World) (old : Array Value) (T : TypeId) (cs : Array Value) : ((w.alloc (.cells old T)).setRow w.heap.size cs).heap[w.heap.size]? = some (.cells cs T (0, 0)) := setRow_heap _ _ _ _ _ _ (heap_alloc_new w _)
theorem both_range (w : World) (old : Array Value) (T : TypeId) (cs : Array Value) : ((w.alloc (.cells old T)).setRow w.heap.size cs).rangeAt w.heap.size 0 cs.toList := by
  intro j v hv
  rw [Nat.zero_add, (row_cells (both_row w old T cs) j).1]
  simpa using hv
theorem hasAt_both (w : World) (old : Array Value) (T : TypeId) (cs : Array Value) (h : okAgg cs 37) : hasAt ((w.alloc (.cells old T)).setRow w.heap.size cs) w.heap.size 0 37 := hasAt_of (both_range w old T cs) (by simpa using h.1)
theorem cellsAt_both (w : World) (old : Array Value) (T : TypeId) (cs : Array Value) (h : okAgg cs 37) : cellsAt ((w.alloc (.cells old T)).setRow w.heap.size cs) w.heap.size 0 37 = cs := by
  rw [cellsAt_of (both_range w old T cs) (by simpa using h.1)]
attribute [local go_sem] hasAt_both cellsAt_both

theorem getCF_ok {b : List Int} (hB : IsB b) (at_ : Int) : (getCF b at_).1.ok := by
  unfold getCF
  split
  · split
    · split
      · split
        · exact zeroCn_ok
        · split
          · exact ⟨getPF_pt hB at_, valueF_bd hB _, getRowF_isB hB _ _⟩
          · exact zeroCn_ok
      · exact zeroCn_ok
    · exact zeroCn_ok
  · exact zeroCn_ok
theorem getCF_len (b : List Int) (at_ : Int) : (getCF b at_).1.l.length ≤ 100 := by
  unfold getCF
  split
  · split
    · split
      · split
        · exact Nat.zero_le _
        · split
          · exact getRowF_small (b := b) (at_ := at_ + 47) (nx := (getRowF b (at_ + 47) 100).2.1) (q := (getRowF b (at_ + 47) 100).2.2) rfl
          · exact Nat.zero_le _
      · exact Nat.zero_le _
    · exact Nat.zero_le _
  · exact Nat.zero_le _
theorem readCF_ok {b : List Int} (hB : IsB b) : (readCF b).1.ok := by
  unfold readCF
  split
  · split
    · exact zeroCn_ok
    · exact getCF_ok hB 0
  · exact zeroCn_ok

end Go.Proofs.Ytofclanljhfkiaa
/- The statements' 'works' of layer 6; contracts under their answers' names. -/
namespace Go.Proofs.Ytofclanljhfkiaa
open Go.RowKit Go.Proofs En Co
set_option linter.unusedVariables false
set_option linter.unusedSimpArgs false
set_option maxRecDepth 20000
attribute [local go_sem ↓] ld_point_eq ld_coin_eq ld_hash_eq st_point_eq st_coin_eq bd_point_eq bd_coin_eq
attribute [local go_sem] ld_point_run ld_coin_run ld_hash_run st_point_run st_coin_run bd_point_zero bd_coin_zero bd_point_of bd_coin_of hash_at rowIs_34 rowIs_37 rowIs_both hasAt_both cellsAt_both

theorem below_slot {B : Nat} {a w : World} (h : Below B a w) (hB : B ≤ a.heap.size) (o : Obj) (cs : Array Value) : Below B a ((w.alloc o).setRow w.heap.size cs) :=
  below_setRow (belA h o hB) (Nat.le_trans hB h.size) (by have := h.size; simp; omega) cs
theorem put06_is {m : Cm} {w : World} {p : List Int} {q : Int} (hm : m.ok w) (h : putCF m.c = (p, q)) :
    Calls Try.prog 60 #[.agg (cc m).toArray] w fun e w' => ∃ A k, e = .returned (.tuple #[.slice A p.length k, .int .i64 q]) ∧ OwnB w' w.heap.size A p.length k p ∧ Below w.heap.size w w' := by
  have C := put06_any m w hm
  rw [h] at C
  exact C
theorem rput06_is {m : Cm} {w : World} {p : List Int} {q : Int} (hm : m.ok w) (h : putCF m.c = (p, q)) :
    Calls Try.prog 88 #[.agg (cc m).toArray] w fun e w' => ∃ A k, e = .returned (.tuple #[.slice A p.length k, .int .i64 q]) ∧ OwnB w' w.heap.size A p.length k p ∧ Below w.heap.size w w' := by
  have C := rput06_any m w hm
  rw [h] at C
  exact C
theorem getC_is {A : Option Addr} {n c : Nat} {b : List Int} {at_ : Int} {w : World} {d : Cn} {nx q : Int} (hb : Arg w A n c b) (ha : -9223372036854775808 ≤ at_ ∧ at_ ≤ 9223372036854775807) (h : getCF b at_ = (d, nx, q)) :
    Calls Try.prog 63 #[.slice A n c, .int .i64 at_] w fun e w' => ∃ A' k, e = .returned (.tuple #[.agg (cc ⟨d, A', k⟩).toArray, .int .i64 nx, .int .i64 q]) ∧ OwnB w' w.heap.size A' d.l.length k d.l ∧ Below w.heap.size w w' := by
  have C := getC_any A n c b at_ w hb ha
  rw [h] at C
  exact C
theorem rgetC_is {A : Option Addr} {n c : Nat} {b : List Int} {at_ : Int} {w : World} {d : Cn} {nx q : Int} (hb : Arg w A n c b) (ha : -9223372036854775808 ≤ at_ ∧ at_ ≤ 9223372036854775807) (h : getCF b at_ = (d, nx, q)) :
    Calls Try.prog 79 #[.slice A n c, .int .i64 at_] w fun e w' => ∃ A' k, e = .returned (.tuple #[.agg (cc ⟨d, A', k⟩).toArray, .int .i64 nx, .int .i64 q]) ∧ OwnB w' w.heap.size A' d.l.length k d.l ∧ Below w.heap.size w w' := by
  have C := rgetC_any A n c b at_ w hb ha
  rw [h] at C
  exact C
theorem getPoint_is {A : Option Addr} {n c : Nat} {b : List Int} {at_ : Int} {w : World} {d : Pt} {nx q : Int} (hb : Arg w A n c b) (ha : -9223372036854775808 ≤ at_ ∧ at_ ≤ 9223372036854775807) (h : getPF b at_ = (d, nx, q)) :
    Calls Try.prog 65 #[.slice A n c, .int .i64 at_] w fun e w' => e = .returned (.tuple #[.agg (pc d).toArray, .int .i64 nx, .int .i64 q]) ∧ Below w.heap.size w w' := by
  have C := getPoint_any A n c b at_ w hb ha
  rw [h] at C
  exact C
theorem rgetPoint_is {A : Option Addr} {n c : Nat} {b : List Int} {at_ : Int} {w : World} {d : Pt} {nx q : Int} (hb : Arg w A n c b) (ha : -9223372036854775808 ≤ at_ ∧ at_ ≤ 9223372036854775807) (h : getPF b at_ = (d, nx, q)) :
    Calls Try.prog 90 #[.slice A n c, .int .i64 at_] w fun e w' => e = .returned (.tuple #[.agg (pc d).toArray, .int .i64 nx, .int .i64 q]) ∧ Below w.heap.size w w' := by
  have C := rgetPoint_any A n c b at_ w hb ha
  rw [h] at C
  exact C
theorem same06_is {a b : Cm} {w : World} {r : Bool} (ha : a.ok w) (hb : b.ok w) (h : decide (a.c = b.c) = r) :
    Calls Try.prog 67 #[.agg (cc a).toArray, .agg (cc b).toArray] w fun e w' => e = .returned (.bool r) ∧ Below w.heap.size w w' := by
  have C := same06_any a b w ha hb
  rw [h] at C
  exact C
theorem rsame06_is {a b : Cm} {w : World} {r : Bool} (ha : a.ok w) (hb : b.ok w) (h : decide (a.c = b.c) = r) :
    Calls Try.prog 42 #[.agg (cc a).toArray, .agg (cc b).toArray] w fun e w' => e = .returned (.bool r) ∧ Below w.heap.size w w' := by
  have C := rsame06_any a b w ha hb
  rw [h] at C
  exact C
theorem less_is {a b : Pt} {w : World} {r : Bool} (ha : a.ok) (hb : b.ok) (h : lessF a b = r) :
    Calls Try.prog 77 #[.agg (pc a).toArray, .agg (pc b).toArray] w fun e w' => e = .returned (.bool r) ∧ Below w.heap.size w w' := by
  have C := less_any a b ha hb w
  rw [h] at C
  exact C
theorem rless_is {a b : Pt} {w : World} {r : Bool} (ha : a.ok) (hb : b.ok) (h : lessF a b = r) :
    Calls Try.prog 35 #[.agg (pc a).toArray, .agg (pc b).toArray] w fun e w' => e = .returned (.bool r) ∧ Below w.heap.size w w' := by
  have C := rless_any a b ha hb w
  rw [h] at C
  exact C
def cnV (v : Int) : Cn := ⟨zeroPt, v, false, []⟩
theorem bd_coin_v (w : World) (v : Int) : (bd_coin #[(1, .int .u64 v)]).run Try.prog w = .ok (.agg (cc ⟨cnV v, none, 0⟩).toArray) w := by
  show (Instr.build 57 #[(1, .int .u64 v)]).run Try.prog w = _
  kernel_rfl
theorem cnV_ok (w : World) (v : Int) (hv : 0 ≤ v ∧ v < 18446744073709551616) : Cm.ok w ⟨cnV v, none, 0⟩ := ⟨⟨zeroPt_ok, hv, IsB.nil⟩, RdN.nil _ _ _, IsB.nil, Nat.le_refl _, Nat.zero_le _, Nat.zero_le _⟩
attribute [local go_sem] bd_coin_v

end Go.Proofs.Ytofclanljhfkiaa
/- Plain laws of coins: the order of points; what is put is got; what is got is put. -/
namespace Go.Proofs.Ytofclanljhfkiaa.Co
open En
set_option linter.unusedVariables false
set_option linter.unusedSimpArgs false
set_option maxRecDepth 20000

theorem lexB_self : ∀ xs : List Int, lexB xs xs = false
  | [] => rfl
  | x :: xs => by unfold lexB; rw [if_pos rfl]; exact lexB_self xs
theorem lexB_total : ∀ (xs ys : List Int), xs.length = ys.length → xs ≠ ys → lexB xs ys = !lexB ys xs
  | [], [], _, h => absurd rfl h
  | [], _ :: _, h, _ => by simp at h
  | _ :: _, [], h, _ => by simp at h
  | x :: xs, y :: ys, h, hne => by
    unfold lexB
    by_cases e : x = y
    · subst e
      rw [if_pos rfl, if_pos rfl]
      exact lexB_total xs ys (by simpa using h) (fun h2 => hne (by rw [h2]))
    · rw [if_neg e, if_neg (fun h2 => e h2.symm)]
      by_cases h1 : x < y
      · rw [decide_eq_true h1, decide_eq_false (show ¬ y < x by omega)]; rfl
      · rw [decide_eq_false h1, decide_eq_true (show y < x by omega)]; rfl
theorem lexB_trans : ∀ (xs ys zs : List Int), lexB xs ys = true → lexB ys zs = true → lexB xs zs = true
  | [], [], _, h, _ => by cases h
  | [], _ :: _, [], _, h => by cases h
  | [], _ :: _, _ :: _, _, _ => rfl
  | _ :: _, [], _, h, _ => by cases h
  | _ :: _, _ :: _, [], _, h => by cases h
  | x :: xs, y :: ys, z :: zs, h1, h2 => by
    unfold lexB at h1 h2 ⊢
    by_cases e : x = y
    · subst e
      rw [if_pos rfl] at h1
      by_cases f : x = z
      · subst f
        rw [if_pos rfl] at h2 ⊢
        exact lexB_trans xs ys zs h1 h2
      · rw [if_neg f] at h2 ⊢
        exact h2
    · rw [if_neg e] at h1
      have g1 := of_decide_eq_true h1
      by_cases f : y = z
      · subst f
        rw [if_neg e]
        exact h1
      · rw [if_neg f] at h2
        have g2 := of_decide_eq_true h2
        rw [if_neg (by omega)]
        exact decide_eq_true (by omega)
theorem key_inj {a b : Pt} (ha : a.ok) (hb : b.ok) (h : a.key = b.key) : a = b := by
  unfold Pt.key at h
  have h1 := List.append_inj h (by rw [ha.len, hb.len])
  have h2 := h1.2
  simp only [List.cons.injEq, and_true] at h2
  exact Pt.ext h1.1 h2.1 h2.2
theorem key_len {a : Pt} (ha : a.ok) : a.key.length = 34 := by unfold Pt.key; simp [ha.len]
theorem lessF_self (a : Pt) : lessF a a = false := lexB_self _
theorem lessF_total {a b : Pt} (ha : a.ok) (hb : b.ok) (h : a ≠ b) : lessF a b = !lessF b a :=
  lexB_total _ _ (by rw [key_len ha, key_len hb]) (fun h2 => h (key_inj ha hb h2))
theorem lessF_trans {a b c : Pt} (h1 : lessF a b = true) (h2 : lessF b c = true) : lessF a c = true := lexB_trans _ _ _ h1 h2
theorem lessF_asymm {a b : Pt} (h : lessF a b = true) : lessF b a = false := by
  cases h2 : lessF b a with
  | false => rfl
  | true => have := lessF_trans h h2; rw [lessF_self] at this; cases this

end Go.Proofs.Ytofclanljhfkiaa.Co
