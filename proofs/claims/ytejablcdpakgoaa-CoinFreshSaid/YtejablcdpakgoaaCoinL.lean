/- What Read answers, in the program and in the reference; what a coin that was got is good for. -/
import Derived.Test.YtejablcdpakgoaaCoinK
namespace Go.Proofs.Ytejablcdpakgoaa
open Go.RowKit Go.Proofs En Co
set_option linter.unusedVariables false
set_option linter.unusedSimpArgs false
attribute [local go_sem ↓] ld_point_eq ld_coin_eq ld_hash_eq st_point_eq st_coin_eq bd_point_eq bd_coin_eq
attribute [local go_sem] ld_point_run ld_coin_run ld_hash_run st_point_run st_coin_run bd_point_zero bd_coin_zero bd_point_of bd_coin_of hash_at rowIs_34 rowIs_37 rowIs_both

theorem both_row (w : World) (old : Array Value) (T : TypeId) (cs : Array Value) : ((w.alloc (.cells old T)).setRow w.heap.size cs).heap[w.heap.size]? = some (.cells cs T (0, 0)) := setRow_heap _ _ _ _ _ _ (heap_alloc_new w _)
theorem both_range (w : World) (old : Array Value) (T : TypeId) (cs : Array Value) : ((w.alloc (.cells old T)).setRow w.heap.size cs).rangeAt w.heap.size 0 cs.toList := by
  intro j v hv
  rw [Nat.zero_add, (row_cells (both_row w old T cs) j).1]
  simpa using hv
theorem hasAt_both (w : World) (old : Array Value) (T : TypeId) (cs : Array Value) (h : okAgg cs 37) : hasAt ((w.alloc (.cells old T)).setRow w.heap.size cs) w.heap.size 0 37 := hasAt_of (both_range w old T cs) (by simpa using h.1)
theorem cellsAt_both (w : World) (old : Array Value) (T : TypeId) (cs : Array Value) (h : okAgg cs 37) : cellsAt ((w.alloc (.cells old T)).setRow w.heap.size cs) w.heap.size 0 37 = cs := by
  rw [cellsAt_of (both_range w old T cs) (by simpa using h.1)]
attribute [local go_sem] hasAt_both cellsAt_both

theorem getCF_ok {b : List Int} (hB : IsB b) (at_ : Int) : (getCF b at_).1.ok := by
  unfold getCF
  split
  · split
    · split
      · split
        · exact zeroCn_ok
        · split
          · exact ⟨getPF_pt hB at_, valueF_bd hB _, getRowF_isB hB _ _⟩
          · exact zeroCn_ok
      · exact zeroCn_ok
    · exact zeroCn_ok
  · exact zeroCn_ok
theorem getCF_len (b : List Int) (at_ : Int) : (getCF b at_).1.l.length ≤ 100 := by
  unfold getCF
  split
  · split
    · split
      · split
        · exact Nat.zero_le _
        · split
          · exact getRowF_small (b := b) (at_ := at_ + 47) (nx := (getRowF b (at_ + 47) 100).2.1) (q := (getRowF b (at_ + 47) 100).2.2) rfl
          · exact Nat.zero_le _
      · exact Nat.zero_le _
    · exact Nat.zero_le _
  · exact Nat.zero_le _
theorem readCF_ok {b : List Int} (hB : IsB b) : (readCF b).1.ok := by
  unfold readCF
  split
  · split
    · exact zeroCn_ok
    · exact getCF_ok hB 0
  · exact zeroCn_ok

set_option maxRecDepth 10000 in
set_option maxHeartbeats 1000000 in
theorem readC_any (A : Option Addr) (n c : Nat) (b : List Int) (w : World) (hb : Arg w A n c b) :
    Calls Try.prog 25 #[.slice A n c] w fun e w' => ∃ A' k, e = .returned (.tuple #[.agg (cc ⟨(readCF b).1, A', k⟩).toArray, .int .i64 (readCF b).2]) ∧ OwnB w' w.heap.size A' (readCF b).1.l.length k (readCF b).1.l ∧ Below w.heap.size w w' := by
  have hlen := hb.rd.len
  have hn := hb.len
  obtain ⟨d, nx, q, hp⟩ : ∃ d nx q, getCF b 0 = (d, nx, q) := ⟨_, _, _, rfl⟩
  have hd := getCF_ok hb.isB 0
  rw [hp] at hd
  have G := fun w' (h : Arg w' A n c b) => getC_any A n c b 0 w' h (by omega)
  rw [hp] at G
  have G := Lib.hid G
  have hokZ := cc_ok (m := ⟨zeroCn, none, 0⟩) zeroPt_ok
  by_cases hq : q = 0
  · subst hq
    by_cases hlt : nx < n
    · have hc : readCF b = (zeroCn, 5) := by unfold readCF; rw [hp, if_pos rfl, if_pos (by rw [hlen]; exact hlt)]
      rw [hc]
      have d1 : decide (nx < (n : Int)) = true := decide_eq_true hlt
      clear hp hc hlen
      go_enter Try.func25, Try.ntmps25
      go_wp2_with (fail)
      refine (G.out _ (hb.below ((Below.refl w.heap.size w).alloc (Nat.le_refl _) _))).mono ?_
      rintro e w1 ⟨A1, k1, rfl, ho1, hb1⟩
      have hri : rowIs w1 w.heap.size 37 := (rowIs_of (heap_alloc_new w _) rfl).below hb1
      have hbl : Below w.heap.size w w1 := ((Below.refl w.heap.size w).alloc (Nat.le_refl _) _).trans (hb1.mono (by simp))
      have hz := hbl.size
      have hne : w.heap.size ≠ w1.heap.size := Nat.ne_of_lt hri.lt
      have hokC := cc_ok (m := ⟨d, A1, k1⟩) hd.p
      have hlt1 := OwnN.lt ho1
      have LT := Lib.hid (And.intro hlt1 ho1)
      clear hb1 hlt1 ho1
      go_wp2_with (fail)
      refine bodyPost_ret (res_cell2 Try.results25 rfl (rd_coin_set ((hri.alloc _).setRow w1.heap.size _ hne) hokZ.1)) rfl ?_
      exact ⟨none, 0, rfl, OwnN.nil _ _ _ _, below_setRow (below_setRow (belA hbl _ (Nat.le_refl _)) hz (by simp; omega) _) (Nat.le_refl _) (by simp; omega) _⟩
    · have hc : readCF b = (d, 0) := by unfold readCF; rw [hp, if_pos rfl, if_neg (by rw [hlen]; exact hlt)]
      rw [hc]
      have d1 : decide (nx < (n : Int)) = false := decide_eq_false hlt
      clear hp hc hlen
      go_enter Try.func25, Try.ntmps25
      go_wp2_with (fail)
      refine (G.out _ (hb.below ((Below.refl w.heap.size w).alloc (Nat.le_refl _) _))).mono ?_
      rintro e w1 ⟨A1, k1, rfl, ho1, hb1⟩
      have hri : rowIs w1 w.heap.size 37 := (rowIs_of (heap_alloc_new w _) rfl).below hb1
      have hbl : Below w.heap.size w w1 := ((Below.refl w.heap.size w).alloc (Nat.le_refl _) _).trans (hb1.mono (by simp))
      have hz := hbl.size
      have hne : w.heap.size ≠ w1.heap.size := Nat.ne_of_lt hri.lt
      have hokC := cc_ok (m := ⟨d, A1, k1⟩) hd.p
      have hlt1 := OwnN.lt ho1
      have LT := Lib.hid (And.intro hlt1 ho1)
      clear hb1 hlt1 ho1
      go_wp2_with (fail)
      refine bodyPost_ret (res_cell2 Try.results25 rfl (rd_coin_set ((hri.alloc _).setRow w1.heap.size _ hne) hokC.1)) rfl ?_
      refine ⟨A1, k1, rfl, ?_, below_setRow (below_setRow (belA hbl _ (Nat.le_refl _)) hz (by simp; omega) _) (Nat.le_refl _) (by simp; omega) _⟩
      refine Own.keep (w := w1) (OwnN.mono LT.out.2 (by simp)) fun k hk => ?_
      have hk2 := LT.out.1 k hk
      simp only [World.size_alloc] at hk2
      exact (setRow_other _ _ _ _ (by omega)).trans ((setRow_other _ _ _ _ (by omega)).trans (Below.heap_alloc _ _ _ hk2.2))
  · have hc : readCF b = (zeroCn, q) := by unfold readCF; rw [hp, if_neg hq]
    rw [hc]
    have d0 : (q == 0) = false := beq_eq_false_iff_ne.2 hq
    have d1 : (q != 0) = true := by rw [bne_iff_ne]; exact hq
    clear hp hc hlen hq
    go_enter Try.func25, Try.ntmps25
    go_wp2_with (fail)
    refine (G.out _ (hb.below ((Below.refl w.heap.size w).alloc (Nat.le_refl _) _))).mono ?_
    rintro e w1 ⟨A1, k1, rfl, ho1, hb1⟩
    have hri : rowIs w1 w.heap.size 37 := (rowIs_of (heap_alloc_new w _) rfl).below hb1
    have hbl : Below w.heap.size w w1 := ((Below.refl w.heap.size w).alloc (Nat.le_refl _) _).trans (hb1.mono (by simp))
    have hz := hbl.size
    have hne : w.heap.size ≠ w1.heap.size := Nat.ne_of_lt hri.lt
    have hokC := cc_ok (m := ⟨d, A1, k1⟩) hd.p
    have hlt1 := OwnN.lt ho1
    have LT := Lib.hid (And.intro hlt1 ho1)
    clear hb1 hlt1 ho1
    go_wp2_with (fail)
    refine bodyPost_ret (res_cell2 Try.results25 rfl (rd_coin_set ((hri.alloc _).setRow w1.heap.size _ hne) hokZ.1)) rfl ?_
    exact ⟨none, 0, rfl, OwnN.nil _ _ _ _, below_setRow (below_setRow (belA hbl _ (Nat.le_refl _)) hz (by simp; omega) _) (Nat.le_refl _) (by simp; omega) _⟩

set_option maxRecDepth 10000 in
set_option maxHeartbeats 1000000 in
theorem rreadC_any (A : Option Addr) (n c : Nat) (b : List Int) (w : World) (hb : Arg w A n c b) :
    Calls Try.prog 26 #[.slice A n c] w fun e w' => ∃ A' k, e = .returned (.tuple #[.agg (cc ⟨(readCF b).1, A', k⟩).toArray, .int .i64 (readCF b).2]) ∧ OwnB w' w.heap.size A' (readCF b).1.l.length k (readCF b).1.l ∧ Below w.heap.size w w' := by
  have hlen := hb.rd.len
  have hn := hb.len
  obtain ⟨d, nx, q, hp⟩ : ∃ d nx q, getCF b 0 = (d, nx, q) := ⟨_, _, _, rfl⟩
  have hd := getCF_ok hb.isB 0
  rw [hp] at hd
  have G := fun w' (h : Arg w' A n c b) => rgetC_any A n c b 0 w' h (by omega)
  rw [hp] at G
  have G := Lib.hid G
  have hokZ := cc_ok (m := ⟨zeroCn, none, 0⟩) zeroPt_ok
  by_cases hq : q = 0
  · subst hq
    by_cases hlt : nx < n
    · have hc : readCF b = (zeroCn, 5) := by unfold readCF; rw [hp, if_pos rfl, if_pos (by rw [hlen]; exact hlt)]
      rw [hc]
      have d1 : decide (nx < (n : Int)) = true := decide_eq_true hlt
      clear hp hc hlen
      go_enter Try.func26, Try.ntmps26
      go_wp2_with (fail)
      refine (G.out _ (hb.below ((Below.refl w.heap.size w).alloc (Nat.le_refl _) _))).mono ?_
      rintro e w1 ⟨A1, k1, rfl, ho1, hb1⟩
      have hri : rowIs w1 w.heap.size 37 := (rowIs_of (heap_alloc_new w _) rfl).below hb1
      have hbl : Below w.heap.size w w1 := ((Below.refl w.heap.size w).alloc (Nat.le_refl _) _).trans (hb1.mono (by simp))
      have hz := hbl.size
      have hne : w.heap.size ≠ w1.heap.size := Nat.ne_of_lt hri.lt
      have hokC := cc_ok (m := ⟨d, A1, k1⟩) hd.p
      have hlt1 := OwnN.lt ho1
      have LT := Lib.hid (And.intro hlt1 ho1)
      clear hb1 hlt1 ho1
      go_wp2_with (fail)
      refine bodyPost_ret (res_cell2 Try.results26 rfl (rd_coin_set ((hri.alloc _).setRow w1.heap.size _ hne) hokZ.1)) rfl ?_
      exact ⟨none, 0, rfl, OwnN.nil _ _ _ _, below_setRow (below_setRow (belA hbl _ (Nat.le_refl _)) hz (by simp; omega) _) (Nat.le_refl _) (by simp; omega) _⟩
    · have hc : readCF b = (d, 0) := by unfold readCF; rw [hp, if_pos rfl, if_neg (by rw [hlen]; exact hlt)]
      rw [hc]
      have d1 : decide (nx < (n : Int)) = false := decide_eq_false hlt
      clear hp hc hlen
      go_enter Try.func26, Try.ntmps26
      go_wp2_with (fail)
      refine (G.out _ (hb.below ((Below.refl w.heap.size w).alloc (Nat.le_refl _) _))).mono ?_
      rintro e w1 ⟨A1, k1, rfl, ho1, hb1⟩
      have hri : rowIs w1 w.heap.size 37 := (rowIs_of (heap_alloc_new w _) rfl).below hb1
      have hbl : Below w.heap.size w w1 := ((Below.refl w.heap.size w).alloc (Nat.le_refl _) _).trans (hb1.mono (by simp))
      have hz := hbl.size
      have hne : w.heap.size ≠ w1.heap.size := Nat.ne_of_lt hri.lt
      have hokC := cc_ok (m := ⟨d, A1, k1⟩) hd.p
      have hlt1 := OwnN.lt ho1
      have LT := Lib.hid (And.intro hlt1 ho1)
      clear hb1 hlt1 ho1
      go_wp2_with (fail)
      refine bodyPost_ret (res_cell2 Try.results26 rfl (rd_coin_set ((hri.alloc _).setRow w1.heap.size _ hne) hokC.1)) rfl ?_
      refine ⟨A1, k1, rfl, ?_, below_setRow (below_setRow (belA hbl _ (Nat.le_refl _)) hz (by simp; omega) _) (Nat.le_refl _) (by simp; omega) _⟩
      refine Own.keep (w := w1) (OwnN.mono LT.out.2 (by simp)) fun k hk => ?_
      have hk2 := LT.out.1 k hk
      simp only [World.size_alloc] at hk2
      exact (setRow_other _ _ _ _ (by omega)).trans ((setRow_other _ _ _ _ (by omega)).trans (Below.heap_alloc _ _ _ hk2.2))
  · have hc : readCF b = (zeroCn, q) := by unfold readCF; rw [hp, if_neg hq]
    rw [hc]
    have d0 : (q == 0) = false := beq_eq_false_iff_ne.2 hq
    have d1 : (q != 0) = true := by rw [bne_iff_ne]; exact hq
    clear hp hc hlen hq
    go_enter Try.func26, Try.ntmps26
    go_wp2_with (fail)
    refine (G.out _ (hb.below ((Below.refl w.heap.size w).alloc (Nat.le_refl _) _))).mono ?_
    rintro e w1 ⟨A1, k1, rfl, ho1, hb1⟩
    have hri : rowIs w1 w.heap.size 37 := (rowIs_of (heap_alloc_new w _) rfl).below hb1
    have hbl : Below w.heap.size w w1 := ((Below.refl w.heap.size w).alloc (Nat.le_refl _) _).trans (hb1.mono (by simp))
    have hz := hbl.size
    have hne : w.heap.size ≠ w1.heap.size := Nat.ne_of_lt hri.lt
    have hokC := cc_ok (m := ⟨d, A1, k1⟩) hd.p
    have hlt1 := OwnN.lt ho1
    have LT := Lib.hid (And.intro hlt1 ho1)
    clear hb1 hlt1 ho1
    go_wp2_with (fail)
    refine bodyPost_ret (res_cell2 Try.results26 rfl (rd_coin_set ((hri.alloc _).setRow w1.heap.size _ hne) hokZ.1)) rfl ?_
    exact ⟨none, 0, rfl, OwnN.nil _ _ _ _, below_setRow (below_setRow (belA hbl _ (Nat.le_refl _)) hz (by simp; omega) _) (Nat.le_refl _) (by simp; omega) _⟩
end Go.Proofs.Ytejablcdpakgoaa
