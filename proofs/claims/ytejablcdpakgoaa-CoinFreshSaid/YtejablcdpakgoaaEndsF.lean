/- What GetRow answers, in the program and in the reference. -/
import Derived.Test.YtejablcdpakgoaaEndsE
namespace Go.Proofs.Ytejablcdpakgoaa
open Go.RowKit Go.Proofs En
set_option linter.unusedVariables false
set_option linter.unusedSimpArgs false

theorem getCountF_ok {b : List Int} (hB : IsB b) {at_ : Int} (h : (getCountF b at_).2.2 = 0) :
    0 ≤ (getCountF b at_).1 ∧ (getCountF b at_).1 < 18446744073709551616 ∧ 0 ≤ at_ ∧ at_ < (getCountF b at_).2.1 ∧ (getCountF b at_).2.1 ≤ b.length := by
  unfold getCountF at *
  split at h
  · rename_i h1
    obtain ⟨i1, _, i2⟩ := getF_in h1
    have hx := getF_bound hB at_ 1
    split at h
    · rename_i h2
      simp only [h1, h2, if_true]
      exact ⟨hx.1, hx.2.2, i1, by omega, by omega⟩
    · rename_i h2
      split at h
      · rename_i h3
        obtain ⟨j1, j3, j2⟩ := getF_in h3
        have hy := getF_bound hB (at_ + 1) (manyF (getF b at_ 1).1)
        split at h
        · cases h
        · rename_i h4
          simp only [h1, h2, h3, h4, if_true, if_false]
          exact ⟨hy.1, hy.2.2, i1, by omega, by omega⟩
      · rename_i h3; exact absurd h h3
  · rename_i h1; exact absurd h h1

set_option maxHeartbeats 400000 in
theorem getRow_any (A : Option Addr) (n c : Nat) (b : List Int) (at_ most : Int) (w : World) (hb : Arg w A n c b) (ha : -9223372036854775808 ≤ at_ ∧ at_ ≤ 9223372036854775807) (hm : -9223372036854775808 ≤ most ∧ most ≤ 9223372036854775807) :
    Calls Try.prog 37 #[.slice A n c, .int .i64 at_, .int .i64 most] w fun e w' => ∃ A' c', e = .returned (.tuple #[.slice A' (getRowF b at_ most).1.length c', .int .i64 (getRowF b at_ most).2.1, .int .i64 (getRowF b at_ most).2.2]) ∧ OwnB w' w.heap.size A' (getRowF b at_ most).1.length c' (getRowF b at_ most).1 ∧ Below w.heap.size w w' := by
  have hl := hb.rd.len
  have hn := hb.len
  have C1 := Lib.hid (getCount_any A n c b at_ w hb ha)
  by_cases hq : (getCountF b at_).2.2 = 0
  · have hx := getCountF_ok hb.isB hq
    rw [hl] at hx
    have C2 := fun w' (h : Below w.heap.size w w') k hk => part_any A n c b (getCountF b at_).2.1 k w' (hb.below h) (by omega) hk
    by_cases hmx : most < 0 ∨ most < (getCountF b at_).1
    · have hr : getRowF b at_ most = ([], 0, 3) := by unfold getRowF; rw [if_pos hq, if_pos hmx]
      have H := Lib.hid hr
      rw [hq] at C1
      clear hr hb C2 hq
      generalize (getCountF b at_).1 = x at *
      generalize (getCountF b at_).2.1 = nx at *
      by_cases hm0 : most < 0
      · have d1 : decide (most < 0) = true := decide_eq_true hm0
        clear hmx
        go_enter Try.func37, Try.ntmps37
        go_wp2_with (fail)
        refine C1.out.mono ?_
        rintro e w' ⟨rfl, hbel⟩
        have hz := hbel.size
        go_wp2_with (fail)
        go_ret3
        rw [H.out]
        exact ⟨none, 0, rfl, OwnN.nil _ _ _ _, hbel⟩
      · have d1 : decide (most < 0) = false := decide_eq_false hm0
        have d2 : decide (x > most) = true := by rw [decide_eq_true_eq]; omega
        clear hmx
        go_enter Try.func37, Try.ntmps37
        go_wp2_with (fail)
        refine C1.out.mono ?_
        rintro e w' ⟨rfl, hbel⟩
        have hz := hbel.size
        go_wp2_with (fail)
        go_ret3
        rw [H.out]
        exact ⟨none, 0, rfl, OwnN.nil _ _ _ _, hbel⟩
    · have hm0 : 0 ≤ most := by omega
      have hmx2 : (getCountF b at_).1 ≤ most := by omega
      have d1 : decide (most < 0) = false := decide_eq_false (by omega)
      have d2 : decide ((getCountF b at_).1 > most) = false := decide_eq_false (by omega)
      have C2 := Lib.hid fun w' h => C2 w' h (getCountF b at_).1 (by omega)
      by_cases hp : (partF b (getCountF b at_).2.1 (getCountF b at_).1).2 = 0
      · have hr : getRowF b at_ most = ((partF b (getCountF b at_).2.1 (getCountF b at_).1).1, (getCountF b at_).2.1 + (getCountF b at_).1, 0) := by unfold getRowF; rw [if_pos hq, if_neg hmx, if_pos hp]
        have hin := (partF_ok hp).2.2.1
        rw [hl] at hin
        have H := Lib.hid hr
        rw [hq] at C1
        rw [hp] at C2
        clear hr hb hq hmx hp
        rw [H.out]
        clear H
        generalize (partF b (getCountF b at_).2.1 (getCountF b at_).1).1 = pp at *
        generalize (getCountF b at_).1 = x at *
        generalize (getCountF b at_).2.1 = nx at *
        go_enter Try.func37, Try.ntmps37
        go_wp2_with (fail)
        refine C1.out.mono ?_
        rintro e w' ⟨rfl, hbel⟩
        have hz := hbel.size
        go_wp2_with (fail)
        refine (C2.out _ hbel).mono ?_
        rintro e w2 ⟨A', c', rfl, ho, hbel2⟩
        have hz2 := hbel2.size
        go_wp2_with (fail)
        go_ret3
        exact ⟨A', c', rfl, ho.mono hz, bThen hbel hbel2⟩
      · have hr : getRowF b at_ most = ([], 0, (partF b (getCountF b at_).2.1 (getCountF b at_).1).2) := by unfold getRowF; rw [if_pos hq, if_neg hmx, if_neg hp]
        have d3 : ((partF b (getCountF b at_).2.1 (getCountF b at_).1).2 != 0) = true := by rw [bne_iff_ne]; exact hp
        have H := Lib.hid hr
        rw [hq] at C1
        clear hr hb hq hmx hp
        rw [H.out]
        clear H
        generalize partF b (getCountF b at_).2.1 (getCountF b at_).1 = pp at *
        obtain ⟨pp, r⟩ := pp
        generalize (getCountF b at_).1 = x at *
        generalize (getCountF b at_).2.1 = nx at *
        go_enter Try.func37, Try.ntmps37
        go_wp2_with (fail)
        refine C1.out.mono ?_
        rintro e w' ⟨rfl, hbel⟩
        have hz := hbel.size
        go_wp2_with (fail)
        refine (C2.out _ hbel).mono ?_
        rintro e w2 ⟨A', c', rfl, ho, hbel2⟩
        have hz2 := hbel2.size
        go_wp2_with (fail)
        go_ret3
        exact ⟨none, 0, rfl, OwnN.nil _ _ _ _, bThen hbel hbel2⟩
  · have hr : getRowF b at_ most = ([], 0, (getCountF b at_).2.2) := by unfold getRowF; rw [if_neg hq]
    have d1 : ((getCountF b at_).2.2 != 0) = true := by rw [bne_iff_ne]; exact hq
    have H := Lib.hid hr
    clear hr hb hq
    rw [H.out]
    clear H
    generalize (getCountF b at_).1 = x at *
    generalize (getCountF b at_).2.1 = nx at *
    generalize (getCountF b at_).2.2 = q at *
    go_enter Try.func37, Try.ntmps37
    go_wp2_with (fail)
    refine C1.out.mono ?_
    rintro e w' ⟨rfl, hbel⟩
    have hz := hbel.size
    go_wp2_with (fail)
    go_ret3
    exact ⟨none, 0, rfl, OwnN.nil _ _ _ _, hbel⟩

set_option maxHeartbeats 400000 in
theorem rgetRow_any (A : Option Addr) (n c : Nat) (b : List Int) (at_ most : Int) (w : World) (hb : Arg w A n c b) (ha : -9223372036854775808 ≤ at_ ∧ at_ ≤ 9223372036854775807) (hm : -9223372036854775808 ≤ most ∧ most ≤ 9223372036854775807) :
    Calls Try.prog 46 #[.slice A n c, .int .i64 at_, .int .i64 most] w fun e w' => ∃ A' c', e = .returned (.tuple #[.slice A' (getRowF b at_ most).1.length c', .int .i64 (getRowF b at_ most).2.1, .int .i64 (getRowF b at_ most).2.2]) ∧ OwnB w' w.heap.size A' (getRowF b at_ most).1.length c' (getRowF b at_ most).1 ∧ Below w.heap.size w w' := by
  have hl := hb.rd.len
  have hn := hb.len
  have C1 := Lib.hid (rgetCount_any A n c b at_ w hb ha)
  by_cases hq : (getCountF b at_).2.2 = 0
  · have hx := getCountF_ok hb.isB hq
    rw [hl] at hx
    have C2 := fun w' (h : Below w.heap.size w w') k hk => rpart_any A n c b (getCountF b at_).2.1 k w' (hb.below h) (by omega) hk
    by_cases hmx : most < 0 ∨ most < (getCountF b at_).1
    · have hr : getRowF b at_ most = ([], 0, 3) := by unfold getRowF; rw [if_pos hq, if_pos hmx]
      have H := Lib.hid hr
      rw [hq] at C1
      clear hr hb C2 hq
      generalize (getCountF b at_).1 = x at *
      generalize (getCountF b at_).2.1 = nx at *
      by_cases hm0 : most < 0
      · have d1 : decide (most < 0) = true := decide_eq_true hm0
        clear hmx
        go_enter Try.func46, Try.ntmps46
        go_wp2_with (fail)
        refine C1.out.mono ?_
        rintro e w' ⟨rfl, hbel⟩
        have hz := hbel.size
        go_wp2_with (fail)
        go_ret3
        rw [H.out]
        exact ⟨none, 0, rfl, OwnN.nil _ _ _ _, hbel⟩
      · have d1 : decide (most < 0) = false := decide_eq_false hm0
        have d2 : decide (x > most) = true := by rw [decide_eq_true_eq]; omega
        clear hmx
        go_enter Try.func46, Try.ntmps46
        go_wp2_with (fail)
        refine C1.out.mono ?_
        rintro e w' ⟨rfl, hbel⟩
        have hz := hbel.size
        go_wp2_with (fail)
        go_ret3
        rw [H.out]
        exact ⟨none, 0, rfl, OwnN.nil _ _ _ _, hbel⟩
    · have hm0 : 0 ≤ most := by omega
      have hmx2 : (getCountF b at_).1 ≤ most := by omega
      have d1 : decide (most < 0) = false := decide_eq_false (by omega)
      have d2 : decide ((getCountF b at_).1 > most) = false := decide_eq_false (by omega)
      have C2 := Lib.hid fun w' h => C2 w' h (getCountF b at_).1 (by omega)
      by_cases hp : (partF b (getCountF b at_).2.1 (getCountF b at_).1).2 = 0
      · have hr : getRowF b at_ most = ((partF b (getCountF b at_).2.1 (getCountF b at_).1).1, (getCountF b at_).2.1 + (getCountF b at_).1, 0) := by unfold getRowF; rw [if_pos hq, if_neg hmx, if_pos hp]
        have hin := (partF_ok hp).2.2.1
        rw [hl] at hin
        have H := Lib.hid hr
        rw [hq] at C1
        rw [hp] at C2
        clear hr hb hq hmx hp
        rw [H.out]
        clear H
        generalize (partF b (getCountF b at_).2.1 (getCountF b at_).1).1 = pp at *
        generalize (getCountF b at_).1 = x at *
        generalize (getCountF b at_).2.1 = nx at *
        go_enter Try.func46, Try.ntmps46
        go_wp2_with (fail)
        refine C1.out.mono ?_
        rintro e w' ⟨rfl, hbel⟩
        have hz := hbel.size
        go_wp2_with (fail)
        refine (C2.out _ hbel).mono ?_
        rintro e w2 ⟨A', c', rfl, ho, hbel2⟩
        have hz2 := hbel2.size
        go_wp2_with (fail)
        go_ret3
        exact ⟨A', c', rfl, ho.mono hz, bThen hbel hbel2⟩
      · have hr : getRowF b at_ most = ([], 0, (partF b (getCountF b at_).2.1 (getCountF b at_).1).2) := by unfold getRowF; rw [if_pos hq, if_neg hmx, if_neg hp]
        have d3 : ((partF b (getCountF b at_).2.1 (getCountF b at_).1).2 != 0) = true := by rw [bne_iff_ne]; exact hp
        have H := Lib.hid hr
        rw [hq] at C1
        clear hr hb hq hmx hp
        rw [H.out]
        clear H
        generalize partF b (getCountF b at_).2.1 (getCountF b at_).1 = pp at *
        obtain ⟨pp, r⟩ := pp
        generalize (getCountF b at_).1 = x at *
        generalize (getCountF b at_).2.1 = nx at *
        go_enter Try.func46, Try.ntmps46
        go_wp2_with (fail)
        refine C1.out.mono ?_
        rintro e w' ⟨rfl, hbel⟩
        have hz := hbel.size
        go_wp2_with (fail)
        refine (C2.out _ hbel).mono ?_
        rintro e w2 ⟨A', c', rfl, ho, hbel2⟩
        have hz2 := hbel2.size
        go_wp2_with (fail)
        go_ret3
        exact ⟨none, 0, rfl, OwnN.nil _ _ _ _, bThen hbel hbel2⟩
  · have hr : getRowF b at_ most = ([], 0, (getCountF b at_).2.2) := by unfold getRowF; rw [if_neg hq]
    have d1 : ((getCountF b at_).2.2 != 0) = true := by rw [bne_iff_ne]; exact hq
    have H := Lib.hid hr
    clear hr hb hq
    rw [H.out]
    clear H
    generalize (getCountF b at_).1 = x at *
    generalize (getCountF b at_).2.1 = nx at *
    generalize (getCountF b at_).2.2 = q at *
    go_enter Try.func46, Try.ntmps46
    go_wp2_with (fail)
    refine C1.out.mono ?_
    rintro e w' ⟨rfl, hbel⟩
    have hz := hbel.size
    go_wp2_with (fail)
    go_ret3
    exact ⟨none, 0, rfl, OwnN.nil _ _ _ _, hbel⟩
end Go.Proofs.Ytejablcdpakgoaa
