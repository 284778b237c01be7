/- Joined texts: EndsD, EndsE, EndsF, Same, Bytes. -/
import Derived.Test.YtofclanljhfkiaaM1
import Derived.Test.YtofclanljhfkiaaProg
import Derived.WalkSmall
import Derived.Laws.BytesArg
import Derived.Lib.Bytes
/- What Count and Row answer, in the program and in the reference. -/
namespace Go.Proofs.Ytofclanljhfkiaa
open Go.RowKit Go.Proofs En
set_option linter.unusedVariables false
set_option linter.unusedSimpArgs false
set_option maxRecDepth 20000

set_option maxHeartbeats 400000 in
theorem count_any (n : Int) (w : World) (hn : 0 ≤ n ∧ n < 18446744073709551616) :
    Calls Try.prog 59 #[.int .u64 n] w fun e w' => ∃ A c, e = .returned (.slice A (countF n).length c) ∧ OwnB w' w.heap.size A (countF n).length c (countF n) ∧ Below w.heap.size w w' := by
  have hn1 := hn.1
  have hn2 := hn.2
  by_cases h1 : n < 253
  · have hc : countF n = lowF n 1 := by unfold countF; rw [if_pos h1]; show [n] = [n % 256]; rw [Int.emod_eq_of_lt (by omega) (by omega)]
    have H := Lib.hid hc
    have d1 : decide (n < 253) = true := decide_eq_true h1
    clear hc
    go_enter Try.func59, Try.ntmps59
    go_wp2_with (fail)
    refine (low_any n 1 _ hn (by omega)).mono ?_
    rintro e w' ⟨A, c, rfl, ho, hb⟩
    go_wp2_with (fail)
    go_ret
    rw [H.out]
    exact ⟨A, c, by simp [lowF_length], by simpa [lowF_length] using ho, hb⟩
  · have d1 : decide (n < 253) = false := decide_eq_false h1
    by_cases h2 : n < 65536
    · have hc : countF n = 253 :: lowF n 2 := by unfold countF; rw [if_neg h1, if_pos h2]
      have H := Lib.hid hc
      have t2 : (n / 65536 == 0) = true := by rw [beq_iff_eq]; omega
      have d2 : decide (n < 65536) = true := decide_eq_true h2
      clear hc
      go_enter Try.func59, Try.ntmps59
      go_wp2_with (fail)
      refine (low_any n 2 _ hn (by omega)).mono ?_
      rintro e w' ⟨A, c, rfl, ho, hb⟩
      have hz : w.heap.size ≤ w'.heap.size := by have := hb.size; simp at this; omega
      have hbel : Below w.heap.size w w' := ((Below.refl w.heap.size w).alloc (Nat.le_refl _) _).trans (hb.mono (by simp))
      go_wp2_with (at_builtin; refine Stop.mk ?_)
      refine Stop.out ?_
      refine wpList_appN _ rfl (.tmp 12) (.tmp 14) _ rfl w.heap.size 5 .u8 1 Try.underlying40 inf_b (some ⟨w.heap.size, 0, none⟩) 1 1 [253] rfl
        ((OwnN.lit (base := w.heap.size) (e := 5) (k := .u8) w [253] 1 (Nat.le_refl _) (by decide) rfl).below hb) A 2 c (lowF n 2) rfl ho.rd (by unfold maxLen; omega) (by omega) hz ?_
      intro A' c' w1 ho' hg hA
      have hb1 : Below w.heap.size w w1 := hbel.grown hg hz (fun g hg => by simp [blk] at hg; omega)
      have H2 := Lib.hid (And.intro ho' hb1)
      clear ho' hb1 hg hA ho hb hbel
      go_wp2_with (fail)
      go_ret
      rw [H.out]
      exact ⟨A', c', by simp [lowF_length], by simpa [lowF_length] using H2.out.1, H2.out.2⟩
    · have t2 : (n / 65536 == 0) = false := by rw [beq_eq_false_iff_ne]; omega
      have d2 : decide (n < 65536) = false := decide_eq_false h2
      by_cases h3 : n < 4294967296
      · have hc : countF n = 254 :: lowF n 4 := by unfold countF; rw [if_neg h1, if_neg h2, if_pos h3]
        have H := Lib.hid hc
        have t3 : (n / 4294967296 == 0) = true := by rw [beq_iff_eq]; omega
        have d3 : decide (n < 4294967296) = true := decide_eq_true h3
        clear hc
        go_enter Try.func59, Try.ntmps59
        go_wp2_with (fail)
        refine (low_any n 4 _ hn (by omega)).mono ?_
        rintro e w' ⟨A, c, rfl, ho, hb⟩
        have hz : w.heap.size ≤ w'.heap.size := by have := hb.size; simp at this; omega
        have hbel : Below w.heap.size w w' := ((Below.refl w.heap.size w).alloc (Nat.le_refl _) _).trans (hb.mono (by simp))
        go_wp2_with (at_builtin; refine Stop.mk ?_)
        refine Stop.out ?_
        refine wpList_appN _ rfl (.tmp 20) (.tmp 22) _ rfl w.heap.size 5 .u8 1 Try.underlying40 inf_b (some ⟨w.heap.size, 0, none⟩) 1 1 [254] rfl
          ((OwnN.lit (base := w.heap.size) (e := 5) (k := .u8) w [254] 1 (Nat.le_refl _) (by decide) rfl).below hb) A 4 c (lowF n 4) rfl ho.rd (by unfold maxLen; omega) (by omega) hz ?_
        intro A' c' w1 ho' hg hA
        have hb1 : Below w.heap.size w w1 := hbel.grown hg hz (fun g hg => by simp [blk] at hg; omega)
        have H2 := Lib.hid (And.intro ho' hb1)
        clear ho' hb1 hg hA ho hb hbel
        go_wp2_with (fail)
        go_ret
        rw [H.out]
        exact ⟨A', c', by simp [lowF_length], by simpa [lowF_length] using H2.out.1, H2.out.2⟩
      · have hc : countF n = 255 :: lowF n 8 := by unfold countF; rw [if_neg h1, if_neg h2, if_neg h3]
        have H := Lib.hid hc
        have t3 : (n / 4294967296 == 0) = false := by rw [beq_eq_false_iff_ne]; omega
        have d3 : decide (n < 4294967296) = false := decide_eq_false h3
        clear hc
        go_enter Try.func59, Try.ntmps59
        go_wp2_with (fail)
        refine (low_any n 8 _ hn (by omega)).mono ?_
        rintro e w' ⟨A, c, rfl, ho, hb⟩
        have hz : w.heap.size ≤ w'.heap.size := by have := hb.size; simp at this; omega
        have hbel : Below w.heap.size w w' := ((Below.refl w.heap.size w).alloc (Nat.le_refl _) _).trans (hb.mono (by simp))
        go_wp2_with (at_builtin; refine Stop.mk ?_)
        refine Stop.out ?_
        refine wpList_appN _ rfl (.tmp 24) (.tmp 26) _ rfl w.heap.size 5 .u8 1 Try.underlying40 inf_b (some ⟨w.heap.size, 0, none⟩) 1 1 [255] rfl
          ((OwnN.lit (base := w.heap.size) (e := 5) (k := .u8) w [255] 1 (Nat.le_refl _) (by decide) rfl).below hb) A 8 c (lowF n 8) rfl ho.rd (by unfold maxLen; omega) (by omega) hz ?_
        intro A' c' w1 ho' hg hA
        have hb1 : Below w.heap.size w w1 := hbel.grown hg hz (fun g hg => by simp [blk] at hg; omega)
        have H2 := Lib.hid (And.intro ho' hb1)
        clear ho' hb1 hg hA ho hb hbel
        go_wp2_with (fail)
        go_ret
        rw [H.out]
        exact ⟨A', c', by simp [lowF_length], by simpa [lowF_length] using H2.out.1, H2.out.2⟩

set_option maxHeartbeats 400000 in
theorem rcount_any (n : Int) (w : World) (hn : 0 ≤ n ∧ n < 18446744073709551616) :
    Calls Try.prog 87 #[.int .u64 n] w fun e w' => ∃ A c, e = .returned (.slice A (countF n).length c) ∧ OwnB w' w.heap.size A (countF n).length c (countF n) ∧ Below w.heap.size w w' := by
  have hn1 := hn.1
  have hn2 := hn.2
  by_cases h1 : n < 253
  · have hc : countF n = lowF n 1 := by unfold countF; rw [if_pos h1]; show [n] = [n % 256]; rw [Int.emod_eq_of_lt (by omega) (by omega)]
    have H := Lib.hid hc
    have d1 : decide (n < 253) = true := decide_eq_true h1
    clear hc
    go_enter Try.func87, Try.ntmps87
    go_wp2_with (fail)
    go_ret
    rw [H.out]
    exact ⟨_, _, rfl, by
      have h := OwnN.lit (base := w.heap.size) (e := 5) (k := .u8) w [n] 1 (Nat.le_refl _) (by decide) rfl
      have e : lowF n 1 = [n] := by show [n % 256] = [n]; rw [Int.emod_eq_of_lt (by omega) (by omega)]
      rw [e]; exact h, (Below.refl _ _).alloc (Nat.le_refl _) _⟩
  · have d1 : decide (n < 253) = false := decide_eq_false h1
    by_cases h2 : n < 65536
    · have hc : countF n = 253 :: lowF n 2 := by unfold countF; rw [if_neg h1, if_pos h2]
      have H := Lib.hid hc
      have t2 : (n / 65536 == 0) = true := by rw [beq_iff_eq]; omega
      have d2 : decide (n < 65536) = true := decide_eq_true h2
      clear hc
      go_enter Try.func87, Try.ntmps87
      go_wp2_with (fail)
      refine (rlow_any n 2 _ hn (by omega)).mono ?_
      rintro e w' ⟨A, c, rfl, ho, hb⟩
      have hz : w.heap.size ≤ w'.heap.size := by have := hb.size; simp at this; omega
      have hbel : Below w.heap.size w w' := ((Below.refl w.heap.size w).alloc (Nat.le_refl _) _).trans (hb.mono (by simp))
      go_wp2_with (at_builtin; refine Stop.mk ?_)
      refine Stop.out ?_
      refine wpList_appN _ rfl (.tmp 12) (.tmp 14) _ rfl w.heap.size 5 .u8 1 Try.underlying40 inf_b (some ⟨w.heap.size, 0, none⟩) 1 1 [253] rfl
        ((OwnN.lit (base := w.heap.size) (e := 5) (k := .u8) w [253] 1 (Nat.le_refl _) (by decide) rfl).below hb) A 2 c (lowF n 2) rfl ho.rd (by unfold maxLen; omega) (by omega) hz ?_
      intro A' c' w1 ho' hg hA
      have hb1 : Below w.heap.size w w1 := hbel.grown hg hz (fun g hg => by simp [blk] at hg; omega)
      have H2 := Lib.hid (And.intro ho' hb1)
      clear ho' hb1 hg hA ho hb hbel
      go_wp2_with (fail)
      go_ret
      rw [H.out]
      exact ⟨A', c', by simp [lowF_length], by simpa [lowF_length] using H2.out.1, H2.out.2⟩
    · have t2 : (n / 65536 == 0) = false := by rw [beq_eq_false_iff_ne]; omega
      have d2 : decide (n < 65536) = false := decide_eq_false h2
      by_cases h3 : n < 4294967296
      · have hc : countF n = 254 :: lowF n 4 := by unfold countF; rw [if_neg h1, if_neg h2, if_pos h3]
        have H := Lib.hid hc
        have t3 : (n / 4294967296 == 0) = true := by rw [beq_iff_eq]; omega
        have d3 : decide (n < 4294967296) = true := decide_eq_true h3
        clear hc
        go_enter Try.func87, Try.ntmps87
        go_wp2_with (fail)
        refine (rlow_any n 4 _ hn (by omega)).mono ?_
        rintro e w' ⟨A, c, rfl, ho, hb⟩
        have hz : w.heap.size ≤ w'.heap.size := by have := hb.size; simp at this; omega
        have hbel : Below w.heap.size w w' := ((Below.refl w.heap.size w).alloc (Nat.le_refl _) _).trans (hb.mono (by simp))
        go_wp2_with (at_builtin; refine Stop.mk ?_)
        refine Stop.out ?_
        refine wpList_appN _ rfl (.tmp 19) (.tmp 21) _ rfl w.heap.size 5 .u8 1 Try.underlying40 inf_b (some ⟨w.heap.size, 0, none⟩) 1 1 [254] rfl
          ((OwnN.lit (base := w.heap.size) (e := 5) (k := .u8) w [254] 1 (Nat.le_refl _) (by decide) rfl).below hb) A 4 c (lowF n 4) rfl ho.rd (by unfold maxLen; omega) (by omega) hz ?_
        intro A' c' w1 ho' hg hA
        have hb1 : Below w.heap.size w w1 := hbel.grown hg hz (fun g hg => by simp [blk] at hg; omega)
        have H2 := Lib.hid (And.intro ho' hb1)
        clear ho' hb1 hg hA ho hb hbel
        go_wp2_with (fail)
        go_ret
        rw [H.out]
        exact ⟨A', c', by simp [lowF_length], by simpa [lowF_length] using H2.out.1, H2.out.2⟩
      · have hc : countF n = 255 :: lowF n 8 := by unfold countF; rw [if_neg h1, if_neg h2, if_neg h3]
        have H := Lib.hid hc
        have t3 : (n / 4294967296 == 0) = false := by rw [beq_eq_false_iff_ne]; omega
        have d3 : decide (n < 4294967296) = false := decide_eq_false h3
        clear hc
        go_enter Try.func87, Try.ntmps87
        go_wp2_with (fail)
        refine (rlow_any n 8 _ hn (by omega)).mono ?_
        rintro e w' ⟨A, c, rfl, ho, hb⟩
        have hz : w.heap.size ≤ w'.heap.size := by have := hb.size; simp at this; omega
        have hbel : Below w.heap.size w w' := ((Below.refl w.heap.size w).alloc (Nat.le_refl _) _).trans (hb.mono (by simp))
        go_wp2_with (at_builtin; refine Stop.mk ?_)
        refine Stop.out ?_
        refine wpList_appN _ rfl (.tmp 23) (.tmp 25) _ rfl w.heap.size 5 .u8 1 Try.underlying40 inf_b (some ⟨w.heap.size, 0, none⟩) 1 1 [255] rfl
          ((OwnN.lit (base := w.heap.size) (e := 5) (k := .u8) w [255] 1 (Nat.le_refl _) (by decide) rfl).below hb) A 8 c (lowF n 8) rfl ho.rd (by unfold maxLen; omega) (by omega) hz ?_
        intro A' c' w1 ho' hg hA
        have hb1 : Below w.heap.size w w1 := hbel.grown hg hz (fun g hg => by simp [blk] at hg; omega)
        have H2 := Lib.hid (And.intro ho' hb1)
        clear ho' hb1 hg hA ho hb hbel
        go_wp2_with (fail)
        go_ret
        rw [H.out]
        exact ⟨A', c', by simp [lowF_length], by simpa [lowF_length] using H2.out.1, H2.out.2⟩
end Go.Proofs.Ytofclanljhfkiaa
/- What Row, GetCount and GetRow answer, in the program and in the reference. -/
namespace Go.Proofs.Ytofclanljhfkiaa
open Go.RowKit Go.Proofs En
set_option linter.unusedVariables false
set_option linter.unusedSimpArgs false
set_option maxRecDepth 20000

theorem Arg.below {w w' : World} {A : Option Addr} {n c : Nat} {b : List Int} (h : Arg w A n c b) (hb : Below w.heap.size w w') : Arg w' A n c b :=
  ⟨h.rd.below hb, h.isB, h.cap, h.top, h.len⟩
theorem getF_ok {b : List Int} {at_ m : Int} (h : (getF b at_ m).2 = 0) : szB m = true ∧ (partF b at_ m).2 = 0 ∧ getF b at_ m = (valF (partF b at_ m).1, 0) := by
  unfold getF at *
  split at h
  · rename_i hs
    split at h
    · rename_i hp
      exact ⟨hs, hp, by rw [if_pos hs, if_pos hp]⟩
    · rename_i hp
      exact absurd h hp
  · cases h
theorem getF_in {b : List Int} {at_ m : Int} (h : (getF b at_ m).2 = 0) : 0 ≤ at_ ∧ 0 ≤ m ∧ at_ + m ≤ b.length :=
  let ⟨h1, h2, h3, _⟩ := partF_ok (getF_ok h).2.1
  ⟨h1, h2, h3⟩
theorem getF_one {b : List Int} {at_ v : Int} (h : getF b at_ 1 = (v, 0)) : partF b at_ 1 = ([v], 0) := by
  have h0 : (getF b at_ 1).2 = 0 := by rw [h]
  obtain ⟨hs, hp, he⟩ := getF_ok h0
  have hl := partF_length hp
  rw [he] at h
  injection h with h _
  cases hq : partF b at_ 1 with
  | mk p q =>
    rw [hq] at hl h hp
    cases hp
    have h1 : p.length = 1 := by have : (p.length : Int) = 1 := hl; omega
    match p, h1 with
    | [x], _ =>
      have h2 : valF [x] = v := h
      have : x = v := by simpa [valF] using h2
      rw [this]; rfl
theorem getF_one_err {b : List Int} {at_ v q : Int} (h : getF b at_ 1 = (v, q)) (hq : q ≠ 0) : partF b at_ 1 = ([], q) := by
  unfold getF at h
  rw [if_pos (by decide)] at h
  split at h
  · injection h with _ h2; exact absurd h2.symm hq
  · rename_i hp
    injection h with h1 h2
    cases hx : partF b at_ 1 with
    | mk p r =>
      have := partF_err hp
      rw [hx] at this h2
      rw [← h2]; exact congrArg (·, r) this

set_option maxHeartbeats 400000 in
theorem row_any (A : Option Addr) (n c : Nat) (b : List Int) (w : World) (hb : Arg w A n c b) (h9 : n + 9 ≤ 140737488355328) :
    Calls Try.prog 97 #[.slice A n c] w fun e w' => ∃ A' c', e = .returned (.slice A' (rowF b).length c') ∧ OwnB w' w.heap.size A' (rowF b).length c' (rowF b) ∧ Below w.heap.size w w' := by
  have hl := hb.rd.len
  have hc := countF_len n
  have hrow : rowF b = countF n ++ b := by unfold rowF; rw [hl]
  have hlen : (rowF b).length = (countF n).length + n := by rw [hrow, List.length_append, hl]
  have H := Lib.hid (And.intro hrow hlen)
  clear hrow hlen hl
  go_enter Try.func97, Try.ntmps97
  go_wp2_with (fail)
  refine (count_any n _ (by omega)).mono ?_
  rintro e w' ⟨A', c', rfl, ho, hbel⟩
  have hrd := hb.rd.below hbel
  have hz := hbel.size
  go_wp2_with (at_builtin; refine Stop.mk ?_)
  refine Stop.out ?_
  refine wpList_appN _ rfl (.tmp 6) (.tmp 7) _ rfl w.heap.size 5 .u8 1 Try.underlying40 inf_b A' _ c' (countF n) rfl ho A n c b rfl hrd (by unfold maxLen; omega) (by omega) hz ?_
  intro A2 c2 w1 ho' hg hA
  have hb1 : Below w.heap.size w w1 := hbel.grown hg hz (fun g hg => (ho.lt g hg).1)
  have H2 := Lib.hid (And.intro ho' hb1)
  clear ho' hb1 hg hA ho hbel
  go_wp2_with (fail)
  go_ret
  rw [H.out.2, H.out.1]
  exact ⟨A2, c2, rfl, H2.out.1, H2.out.2⟩

set_option maxHeartbeats 400000 in
theorem rrow_any (A : Option Addr) (n c : Nat) (b : List Int) (w : World) (hb : Arg w A n c b) (h9 : n + 9 ≤ 140737488355328) :
    Calls Try.prog 116 #[.slice A n c] w fun e w' => ∃ A' c', e = .returned (.slice A' (rowF b).length c') ∧ OwnB w' w.heap.size A' (rowF b).length c' (rowF b) ∧ Below w.heap.size w w' := by
  have hl := hb.rd.len
  have hc := countF_len n
  have hrow : rowF b = countF n ++ b := by unfold rowF; rw [hl]
  have hlen : (rowF b).length = (countF n).length + n := by rw [hrow, List.length_append, hl]
  have H := Lib.hid (And.intro hrow hlen)
  clear hrow hlen hl
  go_enter Try.func116, Try.ntmps116
  go_wp2_with (fail)
  refine (rcount_any n _ (by omega)).mono ?_
  rintro e w' ⟨A', c', rfl, ho, hbel⟩
  have hrd := hb.rd.below hbel
  have hz := hbel.size
  go_wp2_with (at_builtin; refine Stop.mk ?_)
  refine Stop.out ?_
  refine wpList_appN _ rfl (.tmp 6) (.tmp 7) _ rfl w.heap.size 5 .u8 1 Try.underlying40 inf_b A' _ c' (countF n) rfl ho A n c b rfl hrd (by unfold maxLen; omega) (by omega) hz ?_
  intro A2 c2 w1 ho' hg hA
  have hb1 : Below w.heap.size w w1 := hbel.grown hg hz (fun g hg => (ho.lt g hg).1)
  have H2 := Lib.hid (And.intro ho' hb1)
  clear ho' hb1 hg hA ho hbel
  go_wp2_with (fail)
  go_ret
  rw [H.out.2, H.out.1]
  exact ⟨A2, c2, rfl, H2.out.1, H2.out.2⟩

/-- a number of so many bytes has no longer count than they and one more -/
theorem countF_fit {x : Int} {k : Nat} (hx : 0 ≤ x ∧ x < 18446744073709551616) (h : x < 256 ^ k) (hk : k = 2 ∨ k = 4 ∨ k = 8) : (countF x).length ≤ k + 1 := by
  unfold countF
  rcases hk with rfl | rfl | rfl
  · split
    · simp
    · rw [if_pos (by simpa using h)]; simp [lowF_length]
  · split
    · simp
    · split
      · simp [lowF_length]
      · rw [if_pos (by simpa using h)]; simp [lowF_length]
  · split
    · simp
    · split
      · simp [lowF_length]
      · split <;> simp [lowF_length]

set_option maxHeartbeats 400000 in
theorem getCount_any (A : Option Addr) (n c : Nat) (b : List Int) (at_ : Int) (w : World) (hb : Arg w A n c b) (ha : -9223372036854775808 ≤ at_ ∧ at_ ≤ 9223372036854775807) :
    Calls Try.prog 75 #[.slice A n c, .int .i64 at_] w fun e w' => e = .returned (.tuple #[.int .u64 (getCountF b at_).1, .int .i64 (getCountF b at_).2.1, .int .i64 (getCountF b at_).2.2]) ∧ Below w.heap.size w w' := by
  have hl := hb.rd.len
  have hn := hb.len
  have C1 := Lib.hid (get_any A n c b at_ 1 w hb ha (by omega))
  have hv := getF_bound hb.isB at_ 1
  cases hg : getF b at_ 1 with
  | mk v q =>
    rw [hg] at hv
    have hv : 0 ≤ v ∧ v < 256 := ⟨hv.1, hv.2.1⟩
    by_cases hq : q = 0
    · subst hq
      obtain ⟨i1, _, i2⟩ := getF_in (b := b) (at_ := at_) (m := 1) (by rw [hg])
      have i2 : at_ + 1 ≤ n := by rw [hl] at i2; exact i2
      by_cases hlt : v < 253
      · have hr : getCountF b at_ = (v, at_ + 1, 0) := by unfold getCountF; rw [hg]; simp only [hlt, if_true]
        have d1 : decide (v < 253) = true := decide_eq_true hlt
        rw [hg] at C1
        rw [hr]
        clear hr hb
        go_enter Try.func75, Try.ntmps75
        go_wp2_with (fail)
        refine C1.out.mono ?_
        rintro e w' ⟨rfl, hbel⟩
        have hz := hbel.size
        go_wp2_with (fail)
        go_ret3
        exact ⟨rfl, hbel⟩
      · have hvs : v = 253 ∨ v = 254 ∨ v = 255 := by omega
        rcases hvs with rfl | rfl | rfl
        · have C2 := Lib.hid fun w' (h : Below w.heap.size w w') => get_any A n c b (at_ + 1) 2 w' (hb.below h) (by omega) (by omega)
          have hr : getCountF b at_ = if (getF b (at_ + 1) 2).2 = 0 then (if ((countF (getF b (at_ + 1) 2).1).length : Int) ≤ 2 then (0, 0, 5) else ((getF b (at_ + 1) 2).1, at_ + 1 + 2, 0)) else (0, 0, (getF b (at_ + 1) 2).2) := by
            unfold getCountF; rw [hg]; rfl
          have hx0 := getF_bound hb.isB (at_ + 1) 2
          rw [hg] at C1
          cases hg2 : getF b (at_ + 1) 2 with
          | mk x y =>
            rw [hg2] at C2 hr hx0
            have hxk : x < 256 ^ 2 := hx0.2.1
            have hx : 0 ≤ x ∧ x < 18446744073709551616 := ⟨hx0.1, hx0.2.2⟩
            clear hx0
            by_cases hy : y = 0
            · subst hy
              obtain ⟨_, _, j2⟩ := getF_in (b := b) (at_ := at_ + 1) (m := 2) (by rw [hg2])
              have j2 : at_ + 1 + 2 ≤ n := by rw [hl] at j2; exact j2
              have C3 := Lib.hid fun w' => count_any x w' hx
              have hcl := countF_len x
              have hcf := countF_fit (k := 2) hx hxk (by omega)
              clear hxk
              rw [if_pos rfl] at hr
              generalize countF x = cx at *
              by_cases hle : (cx.length : Int) ≤ 2
              · rw [if_pos hle] at hr
                rw [hr]
                have d2 : decide ((cx.length : Int) ≤ 2) = true := decide_eq_true hle
                have d3 : ((cx.length : Int) != 3) = true := by rw [bne_iff_ne]; omega
                clear hr hb hlt
                go_enter Try.func75, Try.ntmps75
                go_wp2_with (fail)
                refine C1.out.mono ?_
                rintro e w' ⟨rfl, hbel⟩
                have hz := hbel.size
                go_wp2_with (fail)
                refine (C2.out _ hbel).mono ?_
                rintro e w2 ⟨rfl, hbel2⟩
                have hz2 := hbel2.size
                go_wp2_with (fail)
                refine (C3.out _).mono ?_
                rintro e w3 ⟨A3, c3, rfl, ho3, hbel3⟩
                have hz3 := hbel3.size
                go_wp2_with (fail)
                go_ret3
                exact ⟨rfl, (bThen hbel hbel2).trans (hbel3.mono (by omega))⟩
              · rw [if_neg hle] at hr
                rw [hr]
                have d2 : decide ((cx.length : Int) ≤ 2) = false := decide_eq_false hle
                have d3 : ((cx.length : Int) != 3) = false := by rw [bne_eq_false_iff_eq]; omega
                clear hr hb hlt
                go_enter Try.func75, Try.ntmps75
                go_wp2_with (fail)
                refine C1.out.mono ?_
                rintro e w' ⟨rfl, hbel⟩
                have hz := hbel.size
                go_wp2_with (fail)
                refine (C2.out _ hbel).mono ?_
                rintro e w2 ⟨rfl, hbel2⟩
                have hz2 := hbel2.size
                go_wp2_with (fail)
                refine (C3.out _).mono ?_
                rintro e w3 ⟨A3, c3, rfl, ho3, hbel3⟩
                have hz3 := hbel3.size
                go_wp2_with (fail)
                go_ret3
                exact ⟨rfl, (bThen hbel hbel2).trans (hbel3.mono (by omega))⟩
            · rw [if_neg hy] at hr
              rw [hr]
              have d2 : (y != 0) = true := by rw [bne_iff_ne]; exact hy
              clear hr hb hlt
              go_enter Try.func75, Try.ntmps75
              go_wp2_with (fail)
              refine C1.out.mono ?_
              rintro e w' ⟨rfl, hbel⟩
              have hz := hbel.size
              go_wp2_with (fail)
              refine (C2.out _ hbel).mono ?_
              rintro e w2 ⟨rfl, hbel2⟩
              have hz2 := hbel2.size
              go_wp2_with (fail)
              go_ret3
              exact ⟨rfl, bThen hbel hbel2⟩
        · have C2 := Lib.hid fun w' (h : Below w.heap.size w w') => get_any A n c b (at_ + 1) 4 w' (hb.below h) (by omega) (by omega)
          have hr : getCountF b at_ = if (getF b (at_ + 1) 4).2 = 0 then (if ((countF (getF b (at_ + 1) 4).1).length : Int) ≤ 4 then (0, 0, 5) else ((getF b (at_ + 1) 4).1, at_ + 1 + 4, 0)) else (0, 0, (getF b (at_ + 1) 4).2) := by
            unfold getCountF; rw [hg]; rfl
          have hx0 := getF_bound hb.isB (at_ + 1) 4
          rw [hg] at C1
          cases hg2 : getF b (at_ + 1) 4 with
          | mk x y =>
            rw [hg2] at C2 hr hx0
            have hxk : x < 256 ^ 4 := hx0.2.1
            have hx : 0 ≤ x ∧ x < 18446744073709551616 := ⟨hx0.1, hx0.2.2⟩
            clear hx0
            by_cases hy : y = 0
            · subst hy
              obtain ⟨_, _, j2⟩ := getF_in (b := b) (at_ := at_ + 1) (m := 4) (by rw [hg2])
              have j2 : at_ + 1 + 4 ≤ n := by rw [hl] at j2; exact j2
              have C3 := Lib.hid fun w' => count_any x w' hx
              have hcl := countF_len x
              have hcf := countF_fit (k := 4) hx hxk (by omega)
              clear hxk
              rw [if_pos rfl] at hr
              generalize countF x = cx at *
              by_cases hle : (cx.length : Int) ≤ 4
              · rw [if_pos hle] at hr
                rw [hr]
                have d2 : decide ((cx.length : Int) ≤ 4) = true := decide_eq_true hle
                have d3 : ((cx.length : Int) != 5) = true := by rw [bne_iff_ne]; omega
                clear hr hb hlt
                go_enter Try.func75, Try.ntmps75
                go_wp2_with (fail)
                refine C1.out.mono ?_
                rintro e w' ⟨rfl, hbel⟩
                have hz := hbel.size
                go_wp2_with (fail)
                refine (C2.out _ hbel).mono ?_
                rintro e w2 ⟨rfl, hbel2⟩
                have hz2 := hbel2.size
                go_wp2_with (fail)
                refine (C3.out _).mono ?_
                rintro e w3 ⟨A3, c3, rfl, ho3, hbel3⟩
                have hz3 := hbel3.size
                go_wp2_with (fail)
                go_ret3
                exact ⟨rfl, (bThen hbel hbel2).trans (hbel3.mono (by omega))⟩
              · rw [if_neg hle] at hr
                rw [hr]
                have d2 : decide ((cx.length : Int) ≤ 4) = false := decide_eq_false hle
                have d3 : ((cx.length : Int) != 5) = false := by rw [bne_eq_false_iff_eq]; omega
                clear hr hb hlt
                go_enter Try.func75, Try.ntmps75
                go_wp2_with (fail)
                refine C1.out.mono ?_
                rintro e w' ⟨rfl, hbel⟩
                have hz := hbel.size
                go_wp2_with (fail)
                refine (C2.out _ hbel).mono ?_
                rintro e w2 ⟨rfl, hbel2⟩
                have hz2 := hbel2.size
                go_wp2_with (fail)
                refine (C3.out _).mono ?_
                rintro e w3 ⟨A3, c3, rfl, ho3, hbel3⟩
                have hz3 := hbel3.size
                go_wp2_with (fail)
                go_ret3
                exact ⟨rfl, (bThen hbel hbel2).trans (hbel3.mono (by omega))⟩
            · rw [if_neg hy] at hr
              rw [hr]
              have d2 : (y != 0) = true := by rw [bne_iff_ne]; exact hy
              clear hr hb hlt
              go_enter Try.func75, Try.ntmps75
              go_wp2_with (fail)
              refine C1.out.mono ?_
              rintro e w' ⟨rfl, hbel⟩
              have hz := hbel.size
              go_wp2_with (fail)
              refine (C2.out _ hbel).mono ?_
              rintro e w2 ⟨rfl, hbel2⟩
              have hz2 := hbel2.size
              go_wp2_with (fail)
              go_ret3
              exact ⟨rfl, bThen hbel hbel2⟩
        · have C2 := Lib.hid fun w' (h : Below w.heap.size w w') => get_any A n c b (at_ + 1) 8 w' (hb.below h) (by omega) (by omega)
          have hr : getCountF b at_ = if (getF b (at_ + 1) 8).2 = 0 then (if ((countF (getF b (at_ + 1) 8).1).length : Int) ≤ 8 then (0, 0, 5) else ((getF b (at_ + 1) 8).1, at_ + 1 + 8, 0)) else (0, 0, (getF b (at_ + 1) 8).2) := by
            unfold getCountF; rw [hg]; rfl
          have hx0 := getF_bound hb.isB (at_ + 1) 8
          rw [hg] at C1
          cases hg2 : getF b (at_ + 1) 8 with
          | mk x y =>
            rw [hg2] at C2 hr hx0
            have hxk : x < 256 ^ 8 := hx0.2.1
            have hx : 0 ≤ x ∧ x < 18446744073709551616 := ⟨hx0.1, hx0.2.2⟩
            clear hx0
            by_cases hy : y = 0
            · subst hy
              obtain ⟨_, _, j2⟩ := getF_in (b := b) (at_ := at_ + 1) (m := 8) (by rw [hg2])
              have j2 : at_ + 1 + 8 ≤ n := by rw [hl] at j2; exact j2
              have C3 := Lib.hid fun w' => count_any x w' hx
              have hcl := countF_len x
              have hcf := countF_fit (k := 8) hx hxk (by omega)
              clear hxk
              rw [if_pos rfl] at hr
              generalize countF x = cx at *
              by_cases hle : (cx.length : Int) ≤ 8
              · rw [if_pos hle] at hr
                rw [hr]
                have d2 : decide ((cx.length : Int) ≤ 8) = true := decide_eq_true hle
                have d3 : ((cx.length : Int) != 9) = true := by rw [bne_iff_ne]; omega
                clear hr hb hlt
                go_enter Try.func75, Try.ntmps75
                go_wp2_with (fail)
                refine C1.out.mono ?_
                rintro e w' ⟨rfl, hbel⟩
                have hz := hbel.size
                go_wp2_with (fail)
                refine (C2.out _ hbel).mono ?_
                rintro e w2 ⟨rfl, hbel2⟩
                have hz2 := hbel2.size
                go_wp2_with (fail)
                refine (C3.out _).mono ?_
                rintro e w3 ⟨A3, c3, rfl, ho3, hbel3⟩
                have hz3 := hbel3.size
                go_wp2_with (fail)
                go_ret3
                exact ⟨rfl, (bThen hbel hbel2).trans (hbel3.mono (by omega))⟩
              · rw [if_neg hle] at hr
                rw [hr]
                have d2 : decide ((cx.length : Int) ≤ 8) = false := decide_eq_false hle
                have d3 : ((cx.length : Int) != 9) = false := by rw [bne_eq_false_iff_eq]; omega
                clear hr hb hlt
                go_enter Try.func75, Try.ntmps75
                go_wp2_with (fail)
                refine C1.out.mono ?_
                rintro e w' ⟨rfl, hbel⟩
                have hz := hbel.size
                go_wp2_with (fail)
                refine (C2.out _ hbel).mono ?_
                rintro e w2 ⟨rfl, hbel2⟩
                have hz2 := hbel2.size
                go_wp2_with (fail)
                refine (C3.out _).mono ?_
                rintro e w3 ⟨A3, c3, rfl, ho3, hbel3⟩
                have hz3 := hbel3.size
                go_wp2_with (fail)
                go_ret3
                exact ⟨rfl, (bThen hbel hbel2).trans (hbel3.mono (by omega))⟩
            · rw [if_neg hy] at hr
              rw [hr]
              have d2 : (y != 0) = true := by rw [bne_iff_ne]; exact hy
              clear hr hb hlt
              go_enter Try.func75, Try.ntmps75
              go_wp2_with (fail)
              refine C1.out.mono ?_
              rintro e w' ⟨rfl, hbel⟩
              have hz := hbel.size
              go_wp2_with (fail)
              refine (C2.out _ hbel).mono ?_
              rintro e w2 ⟨rfl, hbel2⟩
              have hz2 := hbel2.size
              go_wp2_with (fail)
              go_ret3
              exact ⟨rfl, bThen hbel hbel2⟩
    · have hr : getCountF b at_ = (0, 0, q) := by unfold getCountF; rw [hg]; exact if_neg hq
      have d1 : (q != 0) = true := by rw [bne_iff_ne]; exact hq
      rw [hg] at C1
      rw [hr]
      clear hr hb
      go_enter Try.func75, Try.ntmps75
      go_wp2_with (fail)
      refine C1.out.mono ?_
      rintro e w' ⟨rfl, hbel⟩
      have hz := hbel.size
      go_wp2_with (fail)
      go_ret3
      exact ⟨rfl, hbel⟩

set_option maxHeartbeats 400000 in
theorem rgetCount_any (A : Option Addr) (n c : Nat) (b : List Int) (at_ : Int) (w : World) (hb : Arg w A n c b) (ha : -9223372036854775808 ≤ at_ ∧ at_ ≤ 9223372036854775807) :
    Calls Try.prog 78 #[.slice A n c, .int .i64 at_] w fun e w' => e = .returned (.tuple #[.int .u64 (getCountF b at_).1, .int .i64 (getCountF b at_).2.1, .int .i64 (getCountF b at_).2.2]) ∧ Below w.heap.size w w' := by
  have hl := hb.rd.len
  have hn := hb.len
  have C1 := Lib.hid (rpart_any A n c b at_ 1 w hb ha (by omega))
  have hv := getF_bound hb.isB at_ 1
  cases hg : getF b at_ 1 with
  | mk v q =>
    rw [hg] at hv
    have hv : 0 ≤ v ∧ v < 256 := ⟨hv.1, hv.2.1⟩
    by_cases hq : q = 0
    · subst hq
      obtain ⟨i1, _, i2⟩ := getF_in (b := b) (at_ := at_) (m := 1) (by rw [hg])
      have i2 : at_ + 1 ≤ n := by rw [hl] at i2; exact i2
      by_cases hlt : v < 253
      · have hr : getCountF b at_ = (v, at_ + 1, 0) := by unfold getCountF; rw [hg]; simp only [hlt, if_true]
        have d1 : decide (v < 253) = true := decide_eq_true hlt
        rw [getF_one hg] at C1
        rw [hr]
        clear hr hb
        go_enter Try.func78, Try.ntmps78
        go_wp2_with (fail)
        refine C1.out.mono ?_
        rintro e w' ⟨A', c', rfl, ho, hbel⟩
        have hrd : RdN w' .u8 A' 1 [v] := ho.rd
        obtain ⟨ad, rfl, hbk, hc0⟩ := hrd.at_ (show 0 < 1 by omega)
        have hc0' : w'.cell? ad = some (.int .u8 v) := hc0
        have hz := hbel.size
        go_wp2_with (fail)
        go_ret3
        exact ⟨rfl, hbel⟩
      · have hvs : v = 253 ∨ v = 254 ∨ v = 255 := by omega
        rcases hvs with rfl | rfl | rfl
        · have C2 := Lib.hid fun w' (h : Below w.heap.size w w') => rget_any A n c b (at_ + 1) 2 w' (hb.below h) (by omega) (by omega)
          have hr : getCountF b at_ = if (getF b (at_ + 1) 2).2 = 0 then (if ((countF (getF b (at_ + 1) 2).1).length : Int) ≤ 2 then (0, 0, 5) else ((getF b (at_ + 1) 2).1, at_ + 1 + 2, 0)) else (0, 0, (getF b (at_ + 1) 2).2) := by
            unfold getCountF; rw [hg]; rfl
          have hx0 := getF_bound hb.isB (at_ + 1) 2
          rw [getF_one hg] at C1
          cases hg2 : getF b (at_ + 1) 2 with
          | mk x y =>
            rw [hg2] at C2 hr hx0
            have hxk : x < 256 ^ 2 := hx0.2.1
            have hx : 0 ≤ x ∧ x < 18446744073709551616 := ⟨hx0.1, hx0.2.2⟩
            clear hx0
            by_cases hy : y = 0
            · subst hy
              obtain ⟨_, _, j2⟩ := getF_in (b := b) (at_ := at_ + 1) (m := 2) (by rw [hg2])
              have j2 : at_ + 1 + 2 ≤ n := by rw [hl] at j2; exact j2
              have C3 := Lib.hid fun w' => rcount_any x w' hx
              have hcl := countF_len x
              have hcf := countF_fit (k := 2) hx hxk (by omega)
              clear hxk
              rw [if_pos rfl] at hr
              generalize countF x = cx at *
              by_cases hle : (cx.length : Int) ≤ 2
              · rw [if_pos hle] at hr
                rw [hr]
                have d2 : decide ((cx.length : Int) ≤ 2) = true := decide_eq_true hle
                have d3 : ((cx.length : Int) != 3) = true := by rw [bne_iff_ne]; omega
                clear hr hb hlt
                go_enter Try.func78, Try.ntmps78
                go_wp2_with (fail)
                refine C1.out.mono ?_
                rintro e w' ⟨A', c', rfl, ho, hbel⟩
                have hrd : RdN w' .u8 A' 1 [253] := ho.rd
                obtain ⟨ad, rfl, hbk, hc0⟩ := hrd.at_ (show 0 < 1 by omega)
                have hc0' : w'.cell? ad = some (.int .u8 253) := hc0
                have hz := hbel.size
                go_wp2_with (fail)
                refine (C2.out _ hbel).mono ?_
                rintro e w2 ⟨rfl, hbel2⟩
                have hz2 := hbel2.size
                go_wp2_with (fail)
                refine (C3.out _).mono ?_
                rintro e w3 ⟨A3, c3, rfl, ho3, hbel3⟩
                have hz3 := hbel3.size
                go_wp2_with (fail)
                go_ret3
                exact ⟨rfl, (bThen hbel hbel2).trans (hbel3.mono (by omega))⟩
              · rw [if_neg hle] at hr
                rw [hr]
                have d2 : decide ((cx.length : Int) ≤ 2) = false := decide_eq_false hle
                have d3 : ((cx.length : Int) != 3) = false := by rw [bne_eq_false_iff_eq]; omega
                clear hr hb hlt
                go_enter Try.func78, Try.ntmps78
                go_wp2_with (fail)
                refine C1.out.mono ?_
                rintro e w' ⟨A', c', rfl, ho, hbel⟩
                have hrd : RdN w' .u8 A' 1 [253] := ho.rd
                obtain ⟨ad, rfl, hbk, hc0⟩ := hrd.at_ (show 0 < 1 by omega)
                have hc0' : w'.cell? ad = some (.int .u8 253) := hc0
                have hz := hbel.size
                go_wp2_with (fail)
                refine (C2.out _ hbel).mono ?_
                rintro e w2 ⟨rfl, hbel2⟩
                have hz2 := hbel2.size
                go_wp2_with (fail)
                refine (C3.out _).mono ?_
                rintro e w3 ⟨A3, c3, rfl, ho3, hbel3⟩
                have hz3 := hbel3.size
                go_wp2_with (fail)
                go_ret3
                exact ⟨rfl, (bThen hbel hbel2).trans (hbel3.mono (by omega))⟩
            · rw [if_neg hy] at hr
              rw [hr]
              have d2 : (y != 0) = true := by rw [bne_iff_ne]; exact hy
              clear hr hb hlt
              go_enter Try.func78, Try.ntmps78
              go_wp2_with (fail)
              refine C1.out.mono ?_
              rintro e w' ⟨A', c', rfl, ho, hbel⟩
              have hrd : RdN w' .u8 A' 1 [253] := ho.rd
              obtain ⟨ad, rfl, hbk, hc0⟩ := hrd.at_ (show 0 < 1 by omega)
              have hc0' : w'.cell? ad = some (.int .u8 253) := hc0
              have hz := hbel.size
              go_wp2_with (fail)
              refine (C2.out _ hbel).mono ?_
              rintro e w2 ⟨rfl, hbel2⟩
              have hz2 := hbel2.size
              go_wp2_with (fail)
              go_ret3
              exact ⟨rfl, bThen hbel hbel2⟩
        · have C2 := Lib.hid fun w' (h : Below w.heap.size w w') => rget_any A n c b (at_ + 1) 4 w' (hb.below h) (by omega) (by omega)
          have hr : getCountF b at_ = if (getF b (at_ + 1) 4).2 = 0 then (if ((countF (getF b (at_ + 1) 4).1).length : Int) ≤ 4 then (0, 0, 5) else ((getF b (at_ + 1) 4).1, at_ + 1 + 4, 0)) else (0, 0, (getF b (at_ + 1) 4).2) := by
            unfold getCountF; rw [hg]; rfl
          have hx0 := getF_bound hb.isB (at_ + 1) 4
          rw [getF_one hg] at C1
          cases hg2 : getF b (at_ + 1) 4 with
          | mk x y =>
            rw [hg2] at C2 hr hx0
            have hxk : x < 256 ^ 4 := hx0.2.1
            have hx : 0 ≤ x ∧ x < 18446744073709551616 := ⟨hx0.1, hx0.2.2⟩
            clear hx0
            by_cases hy : y = 0
            · subst hy
              obtain ⟨_, _, j2⟩ := getF_in (b := b) (at_ := at_ + 1) (m := 4) (by rw [hg2])
              have j2 : at_ + 1 + 4 ≤ n := by rw [hl] at j2; exact j2
              have C3 := Lib.hid fun w' => rcount_any x w' hx
              have hcl := countF_len x
              have hcf := countF_fit (k := 4) hx hxk (by omega)
              clear hxk
              rw [if_pos rfl] at hr
              generalize countF x = cx at *
              by_cases hle : (cx.length : Int) ≤ 4
              · rw [if_pos hle] at hr
                rw [hr]
                have d2 : decide ((cx.length : Int) ≤ 4) = true := decide_eq_true hle
                have d3 : ((cx.length : Int) != 5) = true := by rw [bne_iff_ne]; omega
                clear hr hb hlt
                go_enter Try.func78, Try.ntmps78
                go_wp2_with (fail)
                refine C1.out.mono ?_
                rintro e w' ⟨A', c', rfl, ho, hbel⟩
                have hrd : RdN w' .u8 A' 1 [254] := ho.rd
                obtain ⟨ad, rfl, hbk, hc0⟩ := hrd.at_ (show 0 < 1 by omega)
                have hc0' : w'.cell? ad = some (.int .u8 254) := hc0
                have hz := hbel.size
                go_wp2_with (fail)
                refine (C2.out _ hbel).mono ?_
                rintro e w2 ⟨rfl, hbel2⟩
                have hz2 := hbel2.size
                go_wp2_with (fail)
                refine (C3.out _).mono ?_
                rintro e w3 ⟨A3, c3, rfl, ho3, hbel3⟩
                have hz3 := hbel3.size
                go_wp2_with (fail)
                go_ret3
                exact ⟨rfl, (bThen hbel hbel2).trans (hbel3.mono (by omega))⟩
              · rw [if_neg hle] at hr
                rw [hr]
                have d2 : decide ((cx.length : Int) ≤ 4) = false := decide_eq_false hle
                have d3 : ((cx.length : Int) != 5) = false := by rw [bne_eq_false_iff_eq]; omega
                clear hr hb hlt
                go_enter Try.func78, Try.ntmps78
                go_wp2_with (fail)
                refine C1.out.mono ?_
                rintro e w' ⟨A', c', rfl, ho, hbel⟩
                have hrd : RdN w' .u8 A' 1 [254] := ho.rd
                obtain ⟨ad, rfl, hbk, hc0⟩ := hrd.at_ (show 0 < 1 by omega)
                have hc0' : w'.cell? ad = some (.int .u8 254) := hc0
                have hz := hbel.size
                go_wp2_with (fail)
                refine (C2.out _ hbel).mono ?_
                rintro e w2 ⟨rfl, hbel2⟩
                have hz2 := hbel2.size
                go_wp2_with (fail)
                refine (C3.out _).mono ?_
                rintro e w3 ⟨A3, c3, rfl, ho3, hbel3⟩
                have hz3 := hbel3.size
                go_wp2_with (fail)
                go_ret3
                exact ⟨rfl, (bThen hbel hbel2).trans (hbel3.mono (by omega))⟩
            · rw [if_neg hy] at hr
              rw [hr]
              have d2 : (y != 0) = true := by rw [bne_iff_ne]; exact hy
              clear hr hb hlt
              go_enter Try.func78, Try.ntmps78
              go_wp2_with (fail)
              refine C1.out.mono ?_
              rintro e w' ⟨A', c', rfl, ho, hbel⟩
              have hrd : RdN w' .u8 A' 1 [254] := ho.rd
              obtain ⟨ad, rfl, hbk, hc0⟩ := hrd.at_ (show 0 < 1 by omega)
              have hc0' : w'.cell? ad = some (.int .u8 254) := hc0
              have hz := hbel.size
              go_wp2_with (fail)
              refine (C2.out _ hbel).mono ?_
              rintro e w2 ⟨rfl, hbel2⟩
              have hz2 := hbel2.size
              go_wp2_with (fail)
              go_ret3
              exact ⟨rfl, bThen hbel hbel2⟩
        · have C2 := Lib.hid fun w' (h : Below w.heap.size w w') => rget_any A n c b (at_ + 1) 8 w' (hb.below h) (by omega) (by omega)
          have hr : getCountF b at_ = if (getF b (at_ + 1) 8).2 = 0 then (if ((countF (getF b (at_ + 1) 8).1).length : Int) ≤ 8 then (0, 0, 5) else ((getF b (at_ + 1) 8).1, at_ + 1 + 8, 0)) else (0, 0, (getF b (at_ + 1) 8).2) := by
            unfold getCountF; rw [hg]; rfl
          have hx0 := getF_bound hb.isB (at_ + 1) 8
          rw [getF_one hg] at C1
          cases hg2 : getF b (at_ + 1) 8 with
          | mk x y =>
            rw [hg2] at C2 hr hx0
            have hxk : x < 256 ^ 8 := hx0.2.1
            have hx : 0 ≤ x ∧ x < 18446744073709551616 := ⟨hx0.1, hx0.2.2⟩
            clear hx0
            by_cases hy : y = 0
            · subst hy
              obtain ⟨_, _, j2⟩ := getF_in (b := b) (at_ := at_ + 1) (m := 8) (by rw [hg2])
              have j2 : at_ + 1 + 8 ≤ n := by rw [hl] at j2; exact j2
              have C3 := Lib.hid fun w' => rcount_any x w' hx
              have hcl := countF_len x
              have hcf := countF_fit (k := 8) hx hxk (by omega)
              clear hxk
              rw [if_pos rfl] at hr
              generalize countF x = cx at *
              by_cases hle : (cx.length : Int) ≤ 8
              · rw [if_pos hle] at hr
                rw [hr]
                have d2 : decide ((cx.length : Int) ≤ 8) = true := decide_eq_true hle
                have d3 : ((cx.length : Int) != 9) = true := by rw [bne_iff_ne]; omega
                clear hr hb hlt
                go_enter Try.func78, Try.ntmps78
                go_wp2_with (fail)
                refine C1.out.mono ?_
                rintro e w' ⟨A', c', rfl, ho, hbel⟩
                have hrd : RdN w' .u8 A' 1 [255] := ho.rd
                obtain ⟨ad, rfl, hbk, hc0⟩ := hrd.at_ (show 0 < 1 by omega)
                have hc0' : w'.cell? ad = some (.int .u8 255) := hc0
                have hz := hbel.size
                go_wp2_with (fail)
                refine (C2.out _ hbel).mono ?_
                rintro e w2 ⟨rfl, hbel2⟩
                have hz2 := hbel2.size
                go_wp2_with (fail)
                refine (C3.out _).mono ?_
                rintro e w3 ⟨A3, c3, rfl, ho3, hbel3⟩
                have hz3 := hbel3.size
                go_wp2_with (fail)
                go_ret3
                exact ⟨rfl, (bThen hbel hbel2).trans (hbel3.mono (by omega))⟩
              · rw [if_neg hle] at hr
                rw [hr]
                have d2 : decide ((cx.length : Int) ≤ 8) = false := decide_eq_false hle
                have d3 : ((cx.length : Int) != 9) = false := by rw [bne_eq_false_iff_eq]; omega
                clear hr hb hlt
                go_enter Try.func78, Try.ntmps78
                go_wp2_with (fail)
                refine C1.out.mono ?_
                rintro e w' ⟨A', c', rfl, ho, hbel⟩
                have hrd : RdN w' .u8 A' 1 [255] := ho.rd
                obtain ⟨ad, rfl, hbk, hc0⟩ := hrd.at_ (show 0 < 1 by omega)
                have hc0' : w'.cell? ad = some (.int .u8 255) := hc0
                have hz := hbel.size
                go_wp2_with (fail)
                refine (C2.out _ hbel).mono ?_
                rintro e w2 ⟨rfl, hbel2⟩
                have hz2 := hbel2.size
                go_wp2_with (fail)
                refine (C3.out _).mono ?_
                rintro e w3 ⟨A3, c3, rfl, ho3, hbel3⟩
                have hz3 := hbel3.size
                go_wp2_with (fail)
                go_ret3
                exact ⟨rfl, (bThen hbel hbel2).trans (hbel3.mono (by omega))⟩
            · rw [if_neg hy] at hr
              rw [hr]
              have d2 : (y != 0) = true := by rw [bne_iff_ne]; exact hy
              clear hr hb hlt
              go_enter Try.func78, Try.ntmps78
              go_wp2_with (fail)
              refine C1.out.mono ?_
              rintro e w' ⟨A', c', rfl, ho, hbel⟩
              have hrd : RdN w' .u8 A' 1 [255] := ho.rd
              obtain ⟨ad, rfl, hbk, hc0⟩ := hrd.at_ (show 0 < 1 by omega)
              have hc0' : w'.cell? ad = some (.int .u8 255) := hc0
              have hz := hbel.size
              go_wp2_with (fail)
              refine (C2.out _ hbel).mono ?_
              rintro e w2 ⟨rfl, hbel2⟩
              have hz2 := hbel2.size
              go_wp2_with (fail)
              go_ret3
              exact ⟨rfl, bThen hbel hbel2⟩
    · have hr : getCountF b at_ = (0, 0, q) := by unfold getCountF; rw [hg]; exact if_neg hq
      have d1 : (q != 0) = true := by rw [bne_iff_ne]; exact hq
      rw [getF_one_err hg hq] at C1
      rw [hr]
      clear hr hb
      go_enter Try.func78, Try.ntmps78
      go_wp2_with (fail)
      refine C1.out.mono ?_
      rintro e w' ⟨A', c', rfl, ho, hbel⟩
      have hz := hbel.size
      go_wp2_with (fail)
      go_ret3
      exact ⟨rfl, hbel⟩
end Go.Proofs.Ytofclanljhfkiaa
/- What GetRow answers, in the program and in the reference. -/
namespace Go.Proofs.Ytofclanljhfkiaa
open Go.RowKit Go.Proofs En
set_option linter.unusedVariables false
set_option linter.unusedSimpArgs false
set_option maxRecDepth 20000

theorem getCountF_ok {b : List Int} (hB : IsB b) {at_ : Int} (h : (getCountF b at_).2.2 = 0) :
    0 ≤ (getCountF b at_).1 ∧ (getCountF b at_).1 < 18446744073709551616 ∧ 0 ≤ at_ ∧ at_ < (getCountF b at_).2.1 ∧ (getCountF b at_).2.1 ≤ b.length := by
  unfold getCountF at *
  split at h
  · rename_i h1
    obtain ⟨i1, _, i2⟩ := getF_in h1
    have hx := getF_bound hB at_ 1
    split at h
    · rename_i h2
      simp only [h1, h2, if_true]
      exact ⟨hx.1, hx.2.2, i1, by omega, by omega⟩
    · rename_i h2
      split at h
      · rename_i h3
        obtain ⟨j1, j3, j2⟩ := getF_in h3
        have hy := getF_bound hB (at_ + 1) (manyF (getF b at_ 1).1)
        split at h
        · cases h
        · rename_i h4
          simp only [h1, h2, h3, h4, if_true, if_false]
          exact ⟨hy.1, hy.2.2, i1, by omega, by omega⟩
      · rename_i h3; exact absurd h h3
  · rename_i h1; exact absurd h h1

set_option maxHeartbeats 400000 in
theorem getRow_any (A : Option Addr) (n c : Nat) (b : List Int) (at_ most : Int) (w : World) (hb : Arg w A n c b) (ha : -9223372036854775808 ≤ at_ ∧ at_ ≤ 9223372036854775807) (hm : -9223372036854775808 ≤ most ∧ most ≤ 9223372036854775807) :
    Calls Try.prog 100 #[.slice A n c, .int .i64 at_, .int .i64 most] w fun e w' => ∃ A' c', e = .returned (.tuple #[.slice A' (getRowF b at_ most).1.length c', .int .i64 (getRowF b at_ most).2.1, .int .i64 (getRowF b at_ most).2.2]) ∧ OwnB w' w.heap.size A' (getRowF b at_ most).1.length c' (getRowF b at_ most).1 ∧ Below w.heap.size w w' := by
  have hl := hb.rd.len
  have hn := hb.len
  have C1 := Lib.hid (getCount_any A n c b at_ w hb ha)
  by_cases hq : (getCountF b at_).2.2 = 0
  · have hx := getCountF_ok hb.isB hq
    rw [hl] at hx
    have C2 := fun w' (h : Below w.heap.size w w') k hk => part_any A n c b (getCountF b at_).2.1 k w' (hb.below h) (by omega) hk
    by_cases hmx : most < 0 ∨ most < (getCountF b at_).1
    · have hr : getRowF b at_ most = ([], 0, 3) := by unfold getRowF; rw [if_pos hq, if_pos hmx]
      have H := Lib.hid hr
      rw [hq] at C1
      clear hr hb C2 hq
      generalize (getCountF b at_).1 = x at *
      generalize (getCountF b at_).2.1 = nx at *
      by_cases hm0 : most < 0
      · have d1 : decide (most < 0) = true := decide_eq_true hm0
        clear hmx
        go_enter Try.func100, Try.ntmps100
        go_wp2_with (fail)
        refine C1.out.mono ?_
        rintro e w' ⟨rfl, hbel⟩
        have hz := hbel.size
        go_wp2_with (fail)
        go_ret3
        rw [H.out]
        exact ⟨none, 0, rfl, OwnN.nil _ _ _ _, hbel⟩
      · have d1 : decide (most < 0) = false := decide_eq_false hm0
        have d2 : decide (x > most) = true := by rw [decide_eq_true_eq]; omega
        clear hmx
        go_enter Try.func100, Try.ntmps100
        go_wp2_with (fail)
        refine C1.out.mono ?_
        rintro e w' ⟨rfl, hbel⟩
        have hz := hbel.size
        go_wp2_with (fail)
        go_ret3
        rw [H.out]
        exact ⟨none, 0, rfl, OwnN.nil _ _ _ _, hbel⟩
    · have hm0 : 0 ≤ most := by omega
      have hmx2 : (getCountF b at_).1 ≤ most := by omega
      have d1 : decide (most < 0) = false := decide_eq_false (by omega)
      have d2 : decide ((getCountF b at_).1 > most) = false := decide_eq_false (by omega)
      have C2 := Lib.hid fun w' h => C2 w' h (getCountF b at_).1 (by omega)
      by_cases hp : (partF b (getCountF b at_).2.1 (getCountF b at_).1).2 = 0
      · have hr : getRowF b at_ most = ((partF b (getCountF b at_).2.1 (getCountF b at_).1).1, (getCountF b at_).2.1 + (getCountF b at_).1, 0) := by unfold getRowF; rw [if_pos hq, if_neg hmx, if_pos hp]
        have hin := (partF_ok hp).2.2.1
        rw [hl] at hin
        have H := Lib.hid hr
        rw [hq] at C1
        rw [hp] at C2
        clear hr hb hq hmx hp
        rw [H.out]
        clear H
        generalize (partF b (getCountF b at_).2.1 (getCountF b at_).1).1 = pp at *
        generalize (getCountF b at_).1 = x at *
        generalize (getCountF b at_).2.1 = nx at *
        go_enter Try.func100, Try.ntmps100
        go_wp2_with (fail)
        refine C1.out.mono ?_
        rintro e w' ⟨rfl, hbel⟩
        have hz := hbel.size
        go_wp2_with (fail)
        refine (C2.out _ hbel).mono ?_
        rintro e w2 ⟨A', c', rfl, ho, hbel2⟩
        have hz2 := hbel2.size
        go_wp2_with (fail)
        go_ret3
        exact ⟨A', c', rfl, ho.mono hz, bThen hbel hbel2⟩
      · have hr : getRowF b at_ most = ([], 0, (partF b (getCountF b at_).2.1 (getCountF b at_).1).2) := by unfold getRowF; rw [if_pos hq, if_neg hmx, if_neg hp]
        have d3 : ((partF b (getCountF b at_).2.1 (getCountF b at_).1).2 != 0) = true := by rw [bne_iff_ne]; exact hp
        have H := Lib.hid hr
        rw [hq] at C1
        clear hr hb hq hmx hp
        rw [H.out]
        clear H
        generalize partF b (getCountF b at_).2.1 (getCountF b at_).1 = pp at *
        obtain ⟨pp, r⟩ := pp
        generalize (getCountF b at_).1 = x at *
        generalize (getCountF b at_).2.1 = nx at *
        go_enter Try.func100, Try.ntmps100
        go_wp2_with (fail)
        refine C1.out.mono ?_
        rintro e w' ⟨rfl, hbel⟩
        have hz := hbel.size
        go_wp2_with (fail)
        refine (C2.out _ hbel).mono ?_
        rintro e w2 ⟨A', c', rfl, ho, hbel2⟩
        have hz2 := hbel2.size
        go_wp2_with (fail)
        go_ret3
        exact ⟨none, 0, rfl, OwnN.nil _ _ _ _, bThen hbel hbel2⟩
  · have hr : getRowF b at_ most = ([], 0, (getCountF b at_).2.2) := by unfold getRowF; rw [if_neg hq]
    have d1 : ((getCountF b at_).2.2 != 0) = true := by rw [bne_iff_ne]; exact hq
    have H := Lib.hid hr
    clear hr hb hq
    rw [H.out]
    clear H
    generalize (getCountF b at_).1 = x at *
    generalize (getCountF b at_).2.1 = nx at *
    generalize (getCountF b at_).2.2 = q at *
    go_enter Try.func100, Try.ntmps100
    go_wp2_with (fail)
    refine C1.out.mono ?_
    rintro e w' ⟨rfl, hbel⟩
    have hz := hbel.size
    go_wp2_with (fail)
    go_ret3
    exact ⟨none, 0, rfl, OwnN.nil _ _ _ _, hbel⟩

set_option maxHeartbeats 400000 in
theorem rgetRow_any (A : Option Addr) (n c : Nat) (b : List Int) (at_ most : Int) (w : World) (hb : Arg w A n c b) (ha : -9223372036854775808 ≤ at_ ∧ at_ ≤ 9223372036854775807) (hm : -9223372036854775808 ≤ most ∧ most ≤ 9223372036854775807) :
    Calls Try.prog 113 #[.slice A n c, .int .i64 at_, .int .i64 most] w fun e w' => ∃ A' c', e = .returned (.tuple #[.slice A' (getRowF b at_ most).1.length c', .int .i64 (getRowF b at_ most).2.1, .int .i64 (getRowF b at_ most).2.2]) ∧ OwnB w' w.heap.size A' (getRowF b at_ most).1.length c' (getRowF b at_ most).1 ∧ Below w.heap.size w w' := by
  have hl := hb.rd.len
  have hn := hb.len
  have C1 := Lib.hid (rgetCount_any A n c b at_ w hb ha)
  by_cases hq : (getCountF b at_).2.2 = 0
  · have hx := getCountF_ok hb.isB hq
    rw [hl] at hx
    have C2 := fun w' (h : Below w.heap.size w w') k hk => rpart_any A n c b (getCountF b at_).2.1 k w' (hb.below h) (by omega) hk
    by_cases hmx : most < 0 ∨ most < (getCountF b at_).1
    · have hr : getRowF b at_ most = ([], 0, 3) := by unfold getRowF; rw [if_pos hq, if_pos hmx]
      have H := Lib.hid hr
      rw [hq] at C1
      clear hr hb C2 hq
      generalize (getCountF b at_).1 = x at *
      generalize (getCountF b at_).2.1 = nx at *
      by_cases hm0 : most < 0
      · have d1 : decide (most < 0) = true := decide_eq_true hm0
        clear hmx
        go_enter Try.func113, Try.ntmps113
        go_wp2_with (fail)
        refine C1.out.mono ?_
        rintro e w' ⟨rfl, hbel⟩
        have hz := hbel.size
        go_wp2_with (fail)
        go_ret3
        rw [H.out]
        exact ⟨none, 0, rfl, OwnN.nil _ _ _ _, hbel⟩
      · have d1 : decide (most < 0) = false := decide_eq_false hm0
        have d2 : decide (x > most) = true := by rw [decide_eq_true_eq]; omega
        clear hmx
        go_enter Try.func113, Try.ntmps113
        go_wp2_with (fail)
        refine C1.out.mono ?_
        rintro e w' ⟨rfl, hbel⟩
        have hz := hbel.size
        go_wp2_with (fail)
        go_ret3
        rw [H.out]
        exact ⟨none, 0, rfl, OwnN.nil _ _ _ _, hbel⟩
    · have hm0 : 0 ≤ most := by omega
      have hmx2 : (getCountF b at_).1 ≤ most := by omega
      have d1 : decide (most < 0) = false := decide_eq_false (by omega)
      have d2 : decide ((getCountF b at_).1 > most) = false := decide_eq_false (by omega)
      have C2 := Lib.hid fun w' h => C2 w' h (getCountF b at_).1 (by omega)
      by_cases hp : (partF b (getCountF b at_).2.1 (getCountF b at_).1).2 = 0
      · have hr : getRowF b at_ most = ((partF b (getCountF b at_).2.1 (getCountF b at_).1).1, (getCountF b at_).2.1 + (getCountF b at_).1, 0) := by unfold getRowF; rw [if_pos hq, if_neg hmx, if_pos hp]
        have hin := (partF_ok hp).2.2.1
        rw [hl] at hin
        have H := Lib.hid hr
        rw [hq] at C1
        rw [hp] at C2
        clear hr hb hq hmx hp
        rw [H.out]
        clear H
        generalize (partF b (getCountF b at_).2.1 (getCountF b at_).1).1 = pp at *
        generalize (getCountF b at_).1 = x at *
        generalize (getCountF b at_).2.1 = nx at *
        go_enter Try.func113, Try.ntmps113
        go_wp2_with (fail)
        refine C1.out.mono ?_
        rintro e w' ⟨rfl, hbel⟩
        have hz := hbel.size
        go_wp2_with (fail)
        refine (C2.out _ hbel).mono ?_
        rintro e w2 ⟨A', c', rfl, ho, hbel2⟩
        have hz2 := hbel2.size
        go_wp2_with (fail)
        go_ret3
        exact ⟨A', c', rfl, ho.mono hz, bThen hbel hbel2⟩
      · have hr : getRowF b at_ most = ([], 0, (partF b (getCountF b at_).2.1 (getCountF b at_).1).2) := by unfold getRowF; rw [if_pos hq, if_neg hmx, if_neg hp]
        have d3 : ((partF b (getCountF b at_).2.1 (getCountF b at_).1).2 != 0) = true := by rw [bne_iff_ne]; exact hp
        have H := Lib.hid hr
        rw [hq] at C1
        clear hr hb hq hmx hp
        rw [H.out]
        clear H
        generalize partF b (getCountF b at_).2.1 (getCountF b at_).1 = pp at *
        obtain ⟨pp, r⟩ := pp
        generalize (getCountF b at_).1 = x at *
        generalize (getCountF b at_).2.1 = nx at *
        go_enter Try.func113, Try.ntmps113
        go_wp2_with (fail)
        refine C1.out.mono ?_
        rintro e w' ⟨rfl, hbel⟩
        have hz := hbel.size
        go_wp2_with (fail)
        refine (C2.out _ hbel).mono ?_
        rintro e w2 ⟨A', c', rfl, ho, hbel2⟩
        have hz2 := hbel2.size
        go_wp2_with (fail)
        go_ret3
        exact ⟨none, 0, rfl, OwnN.nil _ _ _ _, bThen hbel hbel2⟩
  · have hr : getRowF b at_ most = ([], 0, (getCountF b at_).2.2) := by unfold getRowF; rw [if_neg hq]
    have d1 : ((getCountF b at_).2.2 != 0) = true := by rw [bne_iff_ne]; exact hq
    have H := Lib.hid hr
    clear hr hb hq
    rw [H.out]
    clear H
    generalize (getCountF b at_).1 = x at *
    generalize (getCountF b at_).2.1 = nx at *
    generalize (getCountF b at_).2.2 = q at *
    go_enter Try.func113, Try.ntmps113
    go_wp2_with (fail)
    refine C1.out.mono ?_
    rintro e w' ⟨rfl, hbel⟩
    have hz := hbel.size
    go_wp2_with (fail)
    go_ret3
    exact ⟨none, 0, rfl, OwnN.nil _ _ _ _, hbel⟩
end Go.Proofs.Ytofclanljhfkiaa
/- What the statements' own helpers answer: Same. -/
namespace Go.Proofs.Ytofclanljhfkiaa
open Go.RowKit Go.Proofs
set_option linter.unusedVariables false
set_option linter.unusedSimpArgs false
set_option maxRecDepth 20000

theorem take_eq_snoc {xs ys : List Int} {j : Nat} (h1 : j < xs.length) (h2 : j < ys.length) (h : xs.take j = ys.take j) (he : xs.getD j 0 = ys.getD j 0) : xs.take (j + 1) = ys.take (j + 1) := by
  rw [List.take_succ_eq_append_getElem h1, List.take_succ_eq_append_getElem h2, h]
  rw [List.getD_eq_getElem?_getD, List.getD_eq_getElem?_getD, List.getElem?_eq_getElem h1, List.getElem?_eq_getElem h2] at he
  congr 2

theorem take_snoc0 (p : List Int) (j : Nat) (h : j < p.length) : p.take (j + 1) = p.take j ++ [p.getD j 0] := by
  rw [List.take_succ_eq_append_getElem h, List.getD_eq_getElem?_getD, List.getElem?_eq_getElem h]
  rfl

set_option maxRecDepth 10000 in
set_option maxHeartbeats 400000 in
theorem same_any (A : Option Addr) (n c : Nat) (xs : List Int) (B : Option Addr) (m d : Nat) (ys : List Int) (w : World) (hA : RdN w .u8 A n xs) (hB : RdN w .u8 B m ys) (hn : n ≤ 9223372036854775807) :
    Calls Try.prog 21 #[.slice A n c, .slice B m d] w fun e w' => e = .returned (.bool (decide (xs = ys))) ∧ Below w.heap.size w w' := by
  have hlx := hA.len
  have hly := hB.len
  by_cases hnm : n = m
  · subst hnm
    have LX := Lib.hid hlx
    have LY := Lib.hid hly
    clear hlx hly
    go_enter Try.func21, Try.ntmps21
    go_wp2_with (fail)
    go_loopw [5] (fun i wr => ∃ j : Nat, j ≤ n ∧ i = .int .i64 j ∧ xs.take j = ys.take j ∧ Below w.heap.size w wr) (fun i _ => n - (intOf i).toNat)
    case atStart => exact ⟨0, by omega, rfl, by simp, Below.refl _ _⟩
    case round =>
      obtain ⟨j, hj, rfl, ht, hbel⟩ := hrel
      have T := Lib.hid ht
      clear ht
      by_cases hlt : j < n
      · have hA2 := hA.below hbel
        have hB2 := hB.below hbel
        obtain ⟨a, rfl, hba, hca⟩ := hA2.at_ hlt
        obtain ⟨b, rfl, hbb, hcb⟩ := hB2.at_ hlt
        obtain ⟨x, hx⟩ : ∃ x, x = xs.getD j 0 := ⟨_, rfl⟩
        obtain ⟨y, hy⟩ : ∃ y, y = ys.getD j 0 := ⟨_, rfl⟩
        rw [← hx] at hca
        rw [← hy] at hcb
        have hz := hbel.size
        by_cases hxy : x = y
        · have d1 : (x != y) = false := by rw [bne_eq_false_iff_eq]; exact hxy
          have HX := Lib.hid (hx.symm.trans (hxy.trans hy))
          clear hx hy hxy
          go_wp2_with (fail)
          go_quiet (fail)
          go_wp2_with (fail)
          go_roundw
          case rel => exact ⟨j + 1, by omega, by go_num, take_eq_snoc (by rw [LX.out]; exact hlt) (by rw [LY.out]; exact hlt) T.out HX.out, belN hbel _⟩
          case measure => simp [intOf]; omega
        · have d1 : (x != y) = true := by rw [bne_iff_ne]; exact hxy
          have HX := Lib.hid (And.intro hx (And.intro hy hxy))
          clear hx hy hxy
          go_wp2_with (fail)
          go_quiet (fail)
          go_wp2_with (fail)
          go_ret
          have hf : decide (xs = ys) = false := by
            rw [decide_eq_false_iff_not]
            intro e
            obtain ⟨h1, h2, h3⟩ := HX.out
            exact h3 (by rw [h1, h2, e])
          exact ⟨by rw [hf]; rfl, belN hbel _⟩
      · obtain rfl : j = n := by omega
        go_wp2_with (fail)
        go_ret
        refine ⟨?_, hbel⟩
        have e := T.out
        rw [List.take_of_length_le (by rw [LX.out]; exact Nat.le_refl _), List.take_of_length_le (by rw [LY.out]; exact Nat.le_refl _)] at e
        rw [decide_eq_true e]; rfl
  · have hne : ¬ (xs = ys) := by intro e; apply hnm; rw [← hlx, ← hly, e]
    have d1 : ((n : Int) != m) = true := by rw [bne_iff_ne]; omega
    have H := Lib.hid hne
    clear hne hnm hlx hly
    go_enter Try.func21, Try.ntmps21
    go_wp2_with (fail)
    go_ret
    exact ⟨by rw [decide_eq_false H.out]; rfl, Below.refl _ _⟩

set_option maxRecDepth 10000 in
set_option maxHeartbeats 400000 in
theorem wide_any (inf : (Try.prog.info? 5).map (fun i => (i.zero, i.size, i.bytes)) = some (some (.int .u8 0), 1, 1)) (B : Option Addr) (n d : Nat) (b : List Int) (w : World) (hB : RdN w .u8 B n b) (hn : n ≤ 140737488355328) :
    Calls Try.prog 38 #[.slice B n d] w fun e w' => ∃ A, e = .returned (.slice A n (n + 3)) ∧ OwnN w' w.heap.size 5 .u8 A (n + 3) (n + 3) (b ++ [7, 7, 7]) ∧ Below w.heap.size w w' := by
  have hl := hB.len
  have LB := Lib.hid hl
  clear hl
  go_enter Try.func38, Try.ntmps38
  go_wp2_with (at_make; refine Stop.mk ?_)
  refine Stop.out ?_
  refine wpList_makeN _ rfl (.tmp 8) (.tmp 8) _ rfl w.heap.size 5 .u8 1 Try.underlying40 inf (n + 3) rfl rfl (by omega) (by unfold maxLen; omega) (Nat.le_refl _) ?_
  intro w1 hown hg
  have hbel : Below w.heap.size w w1 := (Below.refl _ _).grown hg (Nat.le_refl _) (fun _ h => by cases h)
  have I := Lib.hid (And.intro hown hbel)
  clear hown hbel hg
  go_wp2_with (fail)
  go_loopw [4] (fun i wr => ∃ k : Nat, k ≤ n ∧ i = .int .i64 k ∧ OwnN wr w.heap.size 5 .u8 (some ⟨w.heap.size, 0, none⟩) (n + 3) (n + 3) (b.take k ++ List.replicate (n + 3 - k) 0) ∧ Below w.heap.size w wr) (fun i _ => n - (intOf i).toNat)
  case atStart => exact ⟨0, by omega, rfl, by simpa using I.out.1, I.out.2⟩
  case round =>
    obtain ⟨k, hk, rfl, ho, hb⟩ := hrel
    by_cases hlt : k < n
    · obtain ⟨u, hc, _, hf⟩ := Own.cap_cell ho k (by omega)
      have hB2 := hB.below hb
      obtain ⟨a, rfl, hba, hca⟩ := hB2.at_ hlt
      have hS := take_snoc0 b k (by rw [LB.out]; exact hlt)
      have SN := Lib.hid hS
      clear hS
      generalize b.getD k 0 = x at *
      have d0 : decide (k < n + 3) = true := decide_eq_true (by omega)
      go_wp2_with (fail)
      go_roundw
      case rel =>
        refine ⟨k + 1, by omega, by go_num, ?_, hb.setCell (Nat.le_refl _) _⟩
        have h := OwnN.set ho k x
        rw [set_fill _ _ _ _ k (by rw [List.length_take, LB.out]; omega) (by omega), ← SN.out, Nat.sub_sub] at h
        exact h
      case measure => simp [intOf]; omega
    · obtain rfl : k = n := by omega
      have I2 := Lib.hid (And.intro ho hb)
      have hz := hb.size
      clear ho hb
      go_wp2_with (fail)
      go_loopw [5] (fun i wr => ∃ j : Nat, j ≤ 3 ∧ i = .int .i64 (k + j : Nat) ∧ OwnN wr w.heap.size 5 .u8 (some ⟨w.heap.size, 0, none⟩) (k + 3) (k + 3) ((b ++ List.replicate j 7) ++ List.replicate (3 - j) 0) ∧ Below w.heap.size w wr) (fun i _ => k + 3 - (intOf i).toNat)
      case atStart =>
        refine ⟨0, by omega, rfl, ?_, I2.out.2⟩
        have h := I2.out.1
        rw [List.take_of_length_le (by rw [LB.out]; exact Nat.le_refl _), Nat.add_sub_cancel_left] at h
        simpa using h
      case round =>
        obtain ⟨j, hj, rfl, ho, hb⟩ := hrel
        by_cases hlt2 : j < 3
        · obtain ⟨u, hc, _, hf⟩ := Own.cap_cell ho (k + j) (by omega)
          have d0 : decide (k + j < k + 3) = true := decide_eq_true (by omega)
          have d1 : decide (((k + j : Nat) : Int) < ((k + 3 : Nat) : Int)) = true := by rw [decide_eq_true_eq]; omega
          go_wp2_with (fail)
          go_roundw
          case rel =>
            refine ⟨j + 1, by omega, by go_num, ?_, hb.setCell (Nat.le_refl _) _⟩
            have h := OwnN.set ho (k + j) 7
            rw [set_fill _ _ _ _ (k + j) (by simp [LB.out]) (by omega), Nat.sub_sub, List.append_assoc b, ← List.replicate_succ'] at h
            exact h
          case measure => simp [intOf]; omega
        · obtain rfl : j = 3 := by omega
          have d1 : decide (((k + 3 : Nat) : Int) < ((k + 3 : Nat) : Int)) = false := by rw [decide_eq_false_iff_not]; omega
          go_wp2_with (fail)
          go_ret
          exact ⟨_, rfl, by simpa using ho, hb⟩


set_option maxRecDepth 10000 in
set_option maxHeartbeats 400000 in
theorem spoil_any (A : Option Addr) (n c base : Nat) (xs : List Int) (x : Int) (w : World) (ho : OwnN w base 5 .u8 A n c xs) (hbase : base ≤ w.heap.size) (hc : c ≤ 9223372036854775807) :
    Calls Try.prog 40 #[.slice A n c, .int .u8 x] w fun e w' => e = .returned (.tuple #[]) ∧ Below base w w' ∧ ∃ ys, OwnN w' base 5 .u8 A n c ys := by
  have hnc := Own.len_cap ho
  have I := Lib.hid ho
  have HA := Lib.hid ho.lt
  go_enter Try.func40, Try.ntmps40
  go_wp2_with (fail)
  go_loopw [5] (fun i wr => ∃ k : Nat, k ≤ c ∧ i = .int .i64 k ∧ (∃ ys, OwnN wr base 5 .u8 A n c ys) ∧ Below base w wr) (fun i _ => c - (intOf i).toNat)
  case atStart => exact ⟨0, by omega, rfl, ⟨xs, I.out⟩, Below.refl _ _⟩
  case round =>
    obtain ⟨k, hk, rfl, ⟨ys, ho2⟩, hb⟩ := hrel
    by_cases hlt : k < c
    · obtain ⟨g, rfl⟩ : ∃ g, A = some ⟨g, 0, none⟩ := by
        rcases ho2.2 with ⟨_, _, h0⟩ | ⟨g, _, h, _⟩
        · omega
        · exact ⟨g, h⟩
      obtain ⟨u, hcell, ⟨y, hy⟩, hf⟩ := Own.cap_cell ho2 k (by omega)
      subst hy
      have hg := (HA.out g (by simp [blk])).1
      clear hnc
      go_wp2_with (fail)
      go_roundw
      case rel => exact ⟨k + 1, by omega, by go_num, ⟨_, OwnN.set ho2 k _⟩, hb.setCell hg _⟩
      case measure => simp [intOf]; omega
    · obtain rfl : k = c := by omega
      go_wp2_with (fail)
      go_end0
      exact ⟨rfl, hb, ys, ho2⟩

set_option maxRecDepth 10000 in
set_option maxHeartbeats 400000 in
theorem left_any (A : Option Addr) (n : Nat) (B : Option Addr) (d : Nat) (b : List Int) (w : World) (hA : RdN w .u8 A (n + 3) (b ++ [7, 7, 7])) (hB : RdN w .u8 B n b) (hn : n ≤ 140737488355328) :
    Calls Try.prog 39 #[.slice A n (n + 3), .slice B n d] w fun e w' => e = .returned (.bool true) ∧ Below w.heap.size w w' := by
  have hl := hB.len
  have h0 := hA.sub (lo := 0) (m := n) (by omega)
  have hA0 : RdN w .u8 A n b := by
    rw [List.drop_zero, List.take_append_of_le_length (by omega), List.take_of_length_le (by omega)] at h0
    rcases A with _ | a
    · exact h0
    · have e : a.add 0 = a := by unfold Addr.add; simp
      simp only [Option.map_some, e] at h0
      exact h0
  clear h0
  have C := (same_any A n (n + 3) b B n d b w hA0 hB (by omega))
  rw [show decide (b = b) = true from decide_eq_true rfl] at C
  have C := Lib.hid C
  have LB := Lib.hid hl
  clear hl hA0
  go_enter Try.func39, Try.ntmps39
  go_wp2_with (fail)
  refine C.out.mono ?_
  rintro e w' ⟨rfl, hbel⟩
  have hA2 := hA.below hbel
  have hz := hbel.size
  have d9 : decide (((n : Int) + 3) < ((n : Int) + 3)) = false := decide_eq_false (by omega)
  clear C
  go_wp2_with (fail)
  go_loop [6] (fun i => ∃ j : Nat, j ≤ 3 ∧ i = .int .i64 (n + j : Nat)) (fun i => n + 3 - (intOf i).toNat)
  case atStart => exact ⟨0, by omega, rfl⟩
  case round =>
    obtain ⟨j, hj, rfl⟩ := hrel
    by_cases hlt : j < 3
    · obtain ⟨a, rfl, hba, hca⟩ := hA2.at_ (show n + j < n + 3 by omega)
      have h7 : (b ++ [7, 7, 7]).getD (n + j) 0 = 7 := by
        rw [List.getD_eq_getElem?_getD, List.getElem?_append_right (by rw [LB.out]; omega), LB.out, Nat.add_sub_cancel_left]
        have : j = 0 ∨ j = 1 ∨ j = 2 := by omega
        rcases this with rfl | rfl | rfl <;> rfl
      rw [h7] at hca
      have d1 : decide (((n + j : Nat) : Int) < ((n : Int) + 3)) = true := by rw [decide_eq_true_eq]; omega
      go_wp2_with (fail)
      go_round
      case rel => exact ⟨j + 1, by omega, by go_num⟩
      case measure => simp [intOf]; omega
    · obtain rfl : j = 3 := by omega
      have d1 : decide (((n + 3 : Nat) : Int) < ((n : Int) + 3)) = false := by rw [decide_eq_false_iff_not]; omega
      go_wp2_with (fail)
      go_ret
      exact ⟨rfl, hbel⟩
end Go.Proofs.Ytofclanljhfkiaa
/- What bytes.Equal answers. -/
namespace Go.Proofs.Ytofclanljhfkiaa
open Go.RowKit Go.Proofs En
set_option linter.unusedVariables false
set_option linter.unusedSimpArgs false
set_option maxRecDepth 20000

theorem conv_bytes {P : Program} (src e dst : TypeId) (hs : P.underlying src = some (.slice e)) (he : P.underlying e = some (.int .u8)) (hd : P.underlying dst = some .string)
    {w : World} {A : Option Addr} {n : Nat} {xs : List Int} (c : Nat) (h : RdN w .u8 A n xs) : (convert src dst (.slice A n c)).run P w = .ok (.string (strOfNums xs)) w := by
  have hl := h.len
  by_cases hn : n = 0
  · subst hn
    have hx : xs = [] := List.eq_nil_of_length_eq_zero hl
    subst hx
    rw [run_convert_bytes_string w src dst e _ 0 c hs he hd]
    cases A <;> simp [Conv.bytesToString, loadCells]
    all_goals rfl
  · obtain ⟨ad, rfl, _, hc0⟩ := h.at_ (show 0 < n by omega)
    obtain ⟨b, off, spot⟩ := ad
    have hspot : spot = none := by simpa [Addr.add] using World.cell?_spot hc0
    subst hspot
    refine run_convert_bytes_arg w src e hs he b off n c xs hl (fun i hi => ?_) dst hd
    obtain ⟨ad, e, _, hc⟩ := h.at_ hi
    injection e with e
    subst e
    have e2 : (⟨b, off, none⟩ : Addr).add i = ⟨b, off + i, none⟩ := by
      unfold Addr.add
      split <;> simp_all
    rw [e2] at hc
    exact hc

theorem u8_inj : ∀ (x y : Int), 0 ≤ x ∧ x ≤ 255 → 0 ≤ y ∧ y ≤ 255 → UInt8.ofNat x.toNat = UInt8.ofNat y.toNat → x = y := by
  intro x y hx hy h
  have := congrArg UInt8.toNat h
  simp only [UInt8.toNat_ofNat'] at this
  omega
theorem strOfNums_inj {xs : List Int} : ∀ {ys : List Int}, IsB xs → IsB ys → strOfNums xs = strOfNums ys → xs = ys := by
  intro ys hx hy h
  have h2 : (xs.map fun n => UInt8.ofNat n.toNat) = ys.map fun n => UInt8.ofNat n.toNat := by
    rw [← strOfNums_data, ← strOfNums_data, h]
  clear h
  induction xs generalizing ys with
  | nil => cases ys with
    | nil => rfl
    | cons y ys => simp at h2
  | cons x xs ih => cases ys with
    | nil => simp at h2
    | cons y ys =>
      simp only [List.map_cons] at h2
      injection h2 with h3 h4
      have e1 := u8_inj x y (hx x (List.mem_cons_self ..)) (hy y (List.mem_cons_self ..)) h3
      have e2 := ih (fun z hz => hx z (List.mem_cons_of_mem _ hz)) (fun z hz => hy z (List.mem_cons_of_mem _ hz)) h4
      rw [e1, e2]
theorem str_eq {xs ys : List Int} (hx : IsB xs) (hy : IsB ys) : ((strOfNums xs).toList == (strOfNums ys).toList) = decide (xs = ys) := by
  by_cases h : xs = ys
  · rw [decide_eq_true h, h]; exact beq_self_eq_true _
  · rw [decide_eq_false h, beq_eq_false_iff_ne, Lib.strOfNums_toList, Lib.strOfNums_toList]
    intro e
    apply h
    exact strOfNums_inj hx hy (by unfold strOfNums; exact congrArg (fun l : List UInt8 => (⟨l.toArray⟩ : ByteArray)) e)

set_option maxHeartbeats 400000 in
theorem equal_any (A : Option Addr) (n c : Nat) (xs : List Int) (B : Option Addr) (m d : Nat) (ys : List Int) (w : World) (hA : RdN w .u8 A n xs) (hB : RdN w .u8 B m ys) (hx : IsB xs) (hy : IsB ys) :
    Calls Try.prog 102 #[.slice A n c, .slice B m d] w fun e w' => e = .returned (.bool (decide (xs = ys))) ∧ w = w' := by
  have h1 := conv_bytes (P := Try.prog) 40 5 9 Try.underlying40 Try.underlying5 Try.underlying9 c hA
  have h2 := conv_bytes (P := Try.prog) 40 5 9 Try.underlying40 Try.underlying5 Try.underlying9 d hB
  have H := Lib.hid (str_eq hx hy)
  clear hA hB hx hy
  go_enter Try.func102, Try.ntmps102
  go_wp2_with (fail)
  go_ret
  rw [← H.out]
  exact ⟨rfl, rfl⟩
end Go.Proofs.Ytofclanljhfkiaa
