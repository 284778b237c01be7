/- What Count and Row answer, in the program and in the reference. -/
import Derived.Test.YtejablcdpakgoaaEndsC
namespace Go.Proofs.Ytejablcdpakgoaa
open Go.RowKit Go.Proofs En
set_option linter.unusedVariables false
set_option linter.unusedSimpArgs false

set_option maxHeartbeats 400000 in
theorem count_any (n : Int) (w : World) (hn : 0 ≤ n ∧ n < 18446744073709551616) :
    Calls Try.prog 49 #[.int .u64 n] w fun e w' => ∃ A c, e = .returned (.slice A (countF n).length c) ∧ OwnB w' w.heap.size A (countF n).length c (countF n) ∧ Below w.heap.size w w' := by
  have hn1 := hn.1
  have hn2 := hn.2
  by_cases h1 : n < 253
  · have hc : countF n = lowF n 1 := by unfold countF; rw [if_pos h1]; show [n] = [n % 256]; rw [Int.emod_eq_of_lt (by omega) (by omega)]
    have H := Lib.hid hc
    have d1 : decide (n < 253) = true := decide_eq_true h1
    clear hc
    go_enter Try.func49, Try.ntmps49
    go_wp2_with (fail)
    refine (low_any n 1 _ hn (by omega)).mono ?_
    rintro e w' ⟨A, c, rfl, ho, hb⟩
    go_wp2_with (fail)
    go_ret
    rw [H.out]
    exact ⟨A, c, by simp [lowF_length], by simpa [lowF_length] using ho, hb⟩
  · have d1 : decide (n < 253) = false := decide_eq_false h1
    by_cases h2 : n < 65536
    · have hc : countF n = 253 :: lowF n 2 := by unfold countF; rw [if_neg h1, if_pos h2]
      have H := Lib.hid hc
      have t2 : (n / 65536 == 0) = true := by rw [beq_iff_eq]; omega
      have d2 : decide (n < 65536) = true := decide_eq_true h2
      clear hc
      go_enter Try.func49, Try.ntmps49
      go_wp2_with (fail)
      refine (low_any n 2 _ hn (by omega)).mono ?_
      rintro e w' ⟨A, c, rfl, ho, hb⟩
      have hz : w.heap.size ≤ w'.heap.size := by have := hb.size; simp at this; omega
      have hbel : Below w.heap.size w w' := ((Below.refl w.heap.size w).alloc (Nat.le_refl _) _).trans (hb.mono (by simp))
      go_wp2_with (at_builtin; refine Stop.mk ?_)
      refine Stop.out ?_
      refine wpList_appN _ rfl (.tmp 12) (.tmp 14) _ rfl w.heap.size 5 .u8 1 Try.underlying29 inf_b (some ⟨w.heap.size, 0, none⟩) 1 1 [253] rfl
        ((OwnN.lit (base := w.heap.size) (e := 5) (k := .u8) w [253] 1 (Nat.le_refl _) (by decide) rfl).below hb) A 2 c (lowF n 2) rfl ho.rd (by unfold maxLen; omega) (by omega) hz ?_
      intro A' c' w1 ho' hg hA
      have hb1 : Below w.heap.size w w1 := hbel.grown hg hz (fun g hg => by simp [blk] at hg; omega)
      have H2 := Lib.hid (And.intro ho' hb1)
      clear ho' hb1 hg hA ho hb hbel
      go_wp2_with (fail)
      go_ret
      rw [H.out]
      exact ⟨A', c', by simp [lowF_length], by simpa [lowF_length] using H2.out.1, H2.out.2⟩
    · have t2 : (n / 65536 == 0) = false := by rw [beq_eq_false_iff_ne]; omega
      have d2 : decide (n < 65536) = false := decide_eq_false h2
      by_cases h3 : n < 4294967296
      · have hc : countF n = 254 :: lowF n 4 := by unfold countF; rw [if_neg h1, if_neg h2, if_pos h3]
        have H := Lib.hid hc
        have t3 : (n / 4294967296 == 0) = true := by rw [beq_iff_eq]; omega
        have d3 : decide (n < 4294967296) = true := decide_eq_true h3
        clear hc
        go_enter Try.func49, Try.ntmps49
        go_wp2_with (fail)
        refine (low_any n 4 _ hn (by omega)).mono ?_
        rintro e w' ⟨A, c, rfl, ho, hb⟩
        have hz : w.heap.size ≤ w'.heap.size := by have := hb.size; simp at this; omega
        have hbel : Below w.heap.size w w' := ((Below.refl w.heap.size w).alloc (Nat.le_refl _) _).trans (hb.mono (by simp))
        go_wp2_with (at_builtin; refine Stop.mk ?_)
        refine Stop.out ?_
        refine wpList_appN _ rfl (.tmp 20) (.tmp 22) _ rfl w.heap.size 5 .u8 1 Try.underlying29 inf_b (some ⟨w.heap.size, 0, none⟩) 1 1 [254] rfl
          ((OwnN.lit (base := w.heap.size) (e := 5) (k := .u8) w [254] 1 (Nat.le_refl _) (by decide) rfl).below hb) A 4 c (lowF n 4) rfl ho.rd (by unfold maxLen; omega) (by omega) hz ?_
        intro A' c' w1 ho' hg hA
        have hb1 : Below w.heap.size w w1 := hbel.grown hg hz (fun g hg => by simp [blk] at hg; omega)
        have H2 := Lib.hid (And.intro ho' hb1)
        clear ho' hb1 hg hA ho hb hbel
        go_wp2_with (fail)
        go_ret
        rw [H.out]
        exact ⟨A', c', by simp [lowF_length], by simpa [lowF_length] using H2.out.1, H2.out.2⟩
      · have hc : countF n = 255 :: lowF n 8 := by unfold countF; rw [if_neg h1, if_neg h2, if_neg h3]
        have H := Lib.hid hc
        have t3 : (n / 4294967296 == 0) = false := by rw [beq_eq_false_iff_ne]; omega
        have d3 : decide (n < 4294967296) = false := decide_eq_false h3
        clear hc
        go_enter Try.func49, Try.ntmps49
        go_wp2_with (fail)
        refine (low_any n 8 _ hn (by omega)).mono ?_
        rintro e w' ⟨A, c, rfl, ho, hb⟩
        have hz : w.heap.size ≤ w'.heap.size := by have := hb.size; simp at this; omega
        have hbel : Below w.heap.size w w' := ((Below.refl w.heap.size w).alloc (Nat.le_refl _) _).trans (hb.mono (by simp))
        go_wp2_with (at_builtin; refine Stop.mk ?_)
        refine Stop.out ?_
        refine wpList_appN _ rfl (.tmp 24) (.tmp 26) _ rfl w.heap.size 5 .u8 1 Try.underlying29 inf_b (some ⟨w.heap.size, 0, none⟩) 1 1 [255] rfl
          ((OwnN.lit (base := w.heap.size) (e := 5) (k := .u8) w [255] 1 (Nat.le_refl _) (by decide) rfl).below hb) A 8 c (lowF n 8) rfl ho.rd (by unfold maxLen; omega) (by omega) hz ?_
        intro A' c' w1 ho' hg hA
        have hb1 : Below w.heap.size w w1 := hbel.grown hg hz (fun g hg => by simp [blk] at hg; omega)
        have H2 := Lib.hid (And.intro ho' hb1)
        clear ho' hb1 hg hA ho hb hbel
        go_wp2_with (fail)
        go_ret
        rw [H.out]
        exact ⟨A', c', by simp [lowF_length], by simpa [lowF_length] using H2.out.1, H2.out.2⟩

set_option maxHeartbeats 400000 in
theorem rcount_any (n : Int) (w : World) (hn : 0 ≤ n ∧ n < 18446744073709551616) :
    Calls Try.prog 53 #[.int .u64 n] w fun e w' => ∃ A c, e = .returned (.slice A (countF n).length c) ∧ OwnB w' w.heap.size A (countF n).length c (countF n) ∧ Below w.heap.size w w' := by
  have hn1 := hn.1
  have hn2 := hn.2
  by_cases h1 : n < 253
  · have hc : countF n = lowF n 1 := by unfold countF; rw [if_pos h1]; show [n] = [n % 256]; rw [Int.emod_eq_of_lt (by omega) (by omega)]
    have H := Lib.hid hc
    have d1 : decide (n < 253) = true := decide_eq_true h1
    clear hc
    go_enter Try.func53, Try.ntmps53
    go_wp2_with (fail)
    go_ret
    rw [H.out]
    exact ⟨_, _, rfl, by
      have h := OwnN.lit (base := w.heap.size) (e := 5) (k := .u8) w [n] 1 (Nat.le_refl _) (by decide) rfl
      have e : lowF n 1 = [n] := by show [n % 256] = [n]; rw [Int.emod_eq_of_lt (by omega) (by omega)]
      rw [e]; exact h, (Below.refl _ _).alloc (Nat.le_refl _) _⟩
  · have d1 : decide (n < 253) = false := decide_eq_false h1
    by_cases h2 : n < 65536
    · have hc : countF n = 253 :: lowF n 2 := by unfold countF; rw [if_neg h1, if_pos h2]
      have H := Lib.hid hc
      have t2 : (n / 65536 == 0) = true := by rw [beq_iff_eq]; omega
      have d2 : decide (n < 65536) = true := decide_eq_true h2
      clear hc
      go_enter Try.func53, Try.ntmps53
      go_wp2_with (fail)
      refine (rlow_any n 2 _ hn (by omega)).mono ?_
      rintro e w' ⟨A, c, rfl, ho, hb⟩
      have hz : w.heap.size ≤ w'.heap.size := by have := hb.size; simp at this; omega
      have hbel : Below w.heap.size w w' := ((Below.refl w.heap.size w).alloc (Nat.le_refl _) _).trans (hb.mono (by simp))
      go_wp2_with (at_builtin; refine Stop.mk ?_)
      refine Stop.out ?_
      refine wpList_appN _ rfl (.tmp 12) (.tmp 14) _ rfl w.heap.size 5 .u8 1 Try.underlying29 inf_b (some ⟨w.heap.size, 0, none⟩) 1 1 [253] rfl
        ((OwnN.lit (base := w.heap.size) (e := 5) (k := .u8) w [253] 1 (Nat.le_refl _) (by decide) rfl).below hb) A 2 c (lowF n 2) rfl ho.rd (by unfold maxLen; omega) (by omega) hz ?_
      intro A' c' w1 ho' hg hA
      have hb1 : Below w.heap.size w w1 := hbel.grown hg hz (fun g hg => by simp [blk] at hg; omega)
      have H2 := Lib.hid (And.intro ho' hb1)
      clear ho' hb1 hg hA ho hb hbel
      go_wp2_with (fail)
      go_ret
      rw [H.out]
      exact ⟨A', c', by simp [lowF_length], by simpa [lowF_length] using H2.out.1, H2.out.2⟩
    · have t2 : (n / 65536 == 0) = false := by rw [beq_eq_false_iff_ne]; omega
      have d2 : decide (n < 65536) = false := decide_eq_false h2
      by_cases h3 : n < 4294967296
      · have hc : countF n = 254 :: lowF n 4 := by unfold countF; rw [if_neg h1, if_neg h2, if_pos h3]
        have H := Lib.hid hc
        have t3 : (n / 4294967296 == 0) = true := by rw [beq_iff_eq]; omega
        have d3 : decide (n < 4294967296) = true := decide_eq_true h3
        clear hc
        go_enter Try.func53, Try.ntmps53
        go_wp2_with (fail)
        refine (rlow_any n 4 _ hn (by omega)).mono ?_
        rintro e w' ⟨A, c, rfl, ho, hb⟩
        have hz : w.heap.size ≤ w'.heap.size := by have := hb.size; simp at this; omega
        have hbel : Below w.heap.size w w' := ((Below.refl w.heap.size w).alloc (Nat.le_refl _) _).trans (hb.mono (by simp))
        go_wp2_with (at_builtin; refine Stop.mk ?_)
        refine Stop.out ?_
        refine wpList_appN _ rfl (.tmp 19) (.tmp 21) _ rfl w.heap.size 5 .u8 1 Try.underlying29 inf_b (some ⟨w.heap.size, 0, none⟩) 1 1 [254] rfl
          ((OwnN.lit (base := w.heap.size) (e := 5) (k := .u8) w [254] 1 (Nat.le_refl _) (by decide) rfl).below hb) A 4 c (lowF n 4) rfl ho.rd (by unfold maxLen; omega) (by omega) hz ?_
        intro A' c' w1 ho' hg hA
        have hb1 : Below w.heap.size w w1 := hbel.grown hg hz (fun g hg => by simp [blk] at hg; omega)
        have H2 := Lib.hid (And.intro ho' hb1)
        clear ho' hb1 hg hA ho hb hbel
        go_wp2_with (fail)
        go_ret
        rw [H.out]
        exact ⟨A', c', by simp [lowF_length], by simpa [lowF_length] using H2.out.1, H2.out.2⟩
      · have hc : countF n = 255 :: lowF n 8 := by unfold countF; rw [if_neg h1, if_neg h2, if_neg h3]
        have H := Lib.hid hc
        have t3 : (n / 4294967296 == 0) = false := by rw [beq_eq_false_iff_ne]; omega
        have d3 : decide (n < 4294967296) = false := decide_eq_false h3
        clear hc
        go_enter Try.func53, Try.ntmps53
        go_wp2_with (fail)
        refine (rlow_any n 8 _ hn (by omega)).mono ?_
        rintro e w' ⟨A, c, rfl, ho, hb⟩
        have hz : w.heap.size ≤ w'.heap.size := by have := hb.size; simp at this; omega
        have hbel : Below w.heap.size w w' := ((Below.refl w.heap.size w).alloc (Nat.le_refl _) _).trans (hb.mono (by simp))
        go_wp2_with (at_builtin; refine Stop.mk ?_)
        refine Stop.out ?_
        refine wpList_appN _ rfl (.tmp 23) (.tmp 25) _ rfl w.heap.size 5 .u8 1 Try.underlying29 inf_b (some ⟨w.heap.size, 0, none⟩) 1 1 [255] rfl
          ((OwnN.lit (base := w.heap.size) (e := 5) (k := .u8) w [255] 1 (Nat.le_refl _) (by decide) rfl).below hb) A 8 c (lowF n 8) rfl ho.rd (by unfold maxLen; omega) (by omega) hz ?_
        intro A' c' w1 ho' hg hA
        have hb1 : Below w.heap.size w w1 := hbel.grown hg hz (fun g hg => by simp [blk] at hg; omega)
        have H2 := Lib.hid (And.intro ho' hb1)
        clear ho' hb1 hg hA ho hb hbel
        go_wp2_with (fail)
        go_ret
        rw [H.out]
        exact ⟨A', c', by simp [lowF_length], by simpa [lowF_length] using H2.out.1, H2.out.2⟩
end Go.Proofs.Ytejablcdpakgoaa
