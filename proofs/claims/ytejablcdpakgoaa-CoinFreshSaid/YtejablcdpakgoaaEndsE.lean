/- What Row, GetCount and GetRow answer, in the program and in the reference. -/
import Derived.Test.YtejablcdpakgoaaEndsD
namespace Go.Proofs.Ytejablcdpakgoaa
open Go.RowKit Go.Proofs En
set_option linter.unusedVariables false
set_option linter.unusedSimpArgs false

theorem Arg.below {w w' : World} {A : Option Addr} {n c : Nat} {b : List Int} (h : Arg w A n c b) (hb : Below w.heap.size w w') : Arg w' A n c b :=
  ⟨h.rd.below hb, h.isB, h.cap, h.top, h.len⟩
theorem getF_ok {b : List Int} {at_ m : Int} (h : (getF b at_ m).2 = 0) : szB m = true ∧ (partF b at_ m).2 = 0 ∧ getF b at_ m = (valF (partF b at_ m).1, 0) := by
  unfold getF at *
  split at h
  · rename_i hs
    split at h
    · rename_i hp
      exact ⟨hs, hp, by rw [if_pos hs, if_pos hp]⟩
    · rename_i hp
      exact absurd h hp
  · cases h
theorem getF_in {b : List Int} {at_ m : Int} (h : (getF b at_ m).2 = 0) : 0 ≤ at_ ∧ 0 ≤ m ∧ at_ + m ≤ b.length :=
  let ⟨h1, h2, h3, _⟩ := partF_ok (getF_ok h).2.1
  ⟨h1, h2, h3⟩
theorem getF_one {b : List Int} {at_ v : Int} (h : getF b at_ 1 = (v, 0)) : partF b at_ 1 = ([v], 0) := by
  have h0 : (getF b at_ 1).2 = 0 := by rw [h]
  obtain ⟨hs, hp, he⟩ := getF_ok h0
  have hl := partF_length hp
  rw [he] at h
  injection h with h _
  cases hq : partF b at_ 1 with
  | mk p q =>
    rw [hq] at hl h hp
    cases hp
    have h1 : p.length = 1 := by have : (p.length : Int) = 1 := hl; omega
    match p, h1 with
    | [x], _ =>
      have h2 : valF [x] = v := h
      have : x = v := by simpa [valF] using h2
      rw [this]; rfl
theorem getF_one_err {b : List Int} {at_ v q : Int} (h : getF b at_ 1 = (v, q)) (hq : q ≠ 0) : partF b at_ 1 = ([], q) := by
  unfold getF at h
  rw [if_pos (by decide)] at h
  split at h
  · injection h with _ h2; exact absurd h2.symm hq
  · rename_i hp
    injection h with h1 h2
    cases hx : partF b at_ 1 with
    | mk p r =>
      have := partF_err hp
      rw [hx] at this h2
      rw [← h2]; exact congrArg (·, r) this

set_option maxHeartbeats 400000 in
theorem row_any (A : Option Addr) (n c : Nat) (b : List Int) (w : World) (hb : Arg w A n c b) (h9 : n + 9 ≤ 140737488355328) :
    Calls Try.prog 34 #[.slice A n c] w fun e w' => ∃ A' c', e = .returned (.slice A' (rowF b).length c') ∧ OwnB w' w.heap.size A' (rowF b).length c' (rowF b) ∧ Below w.heap.size w w' := by
  have hl := hb.rd.len
  have hc := countF_len n
  have hrow : rowF b = countF n ++ b := by unfold rowF; rw [hl]
  have hlen : (rowF b).length = (countF n).length + n := by rw [hrow, List.length_append, hl]
  have H := Lib.hid (And.intro hrow hlen)
  clear hrow hlen hl
  go_enter Try.func34, Try.ntmps34
  go_wp2_with (fail)
  refine (count_any n _ (by omega)).mono ?_
  rintro e w' ⟨A', c', rfl, ho, hbel⟩
  have hrd := hb.rd.below hbel
  have hz := hbel.size
  go_wp2_with (at_builtin; refine Stop.mk ?_)
  refine Stop.out ?_
  refine wpList_appN _ rfl (.tmp 6) (.tmp 7) _ rfl w.heap.size 5 .u8 1 Try.underlying29 inf_b A' _ c' (countF n) rfl ho A n c b rfl hrd (by unfold maxLen; omega) (by omega) hz ?_
  intro A2 c2 w1 ho' hg hA
  have hb1 : Below w.heap.size w w1 := hbel.grown hg hz (fun g hg => (ho.lt g hg).1)
  have H2 := Lib.hid (And.intro ho' hb1)
  clear ho' hb1 hg hA ho hbel
  go_wp2_with (fail)
  go_ret
  rw [H.out.2, H.out.1]
  exact ⟨A2, c2, rfl, H2.out.1, H2.out.2⟩

set_option maxHeartbeats 400000 in
theorem rrow_any (A : Option Addr) (n c : Nat) (b : List Int) (w : World) (hb : Arg w A n c b) (h9 : n + 9 ≤ 140737488355328) :
    Calls Try.prog 40 #[.slice A n c] w fun e w' => ∃ A' c', e = .returned (.slice A' (rowF b).length c') ∧ OwnB w' w.heap.size A' (rowF b).length c' (rowF b) ∧ Below w.heap.size w w' := by
  have hl := hb.rd.len
  have hc := countF_len n
  have hrow : rowF b = countF n ++ b := by unfold rowF; rw [hl]
  have hlen : (rowF b).length = (countF n).length + n := by rw [hrow, List.length_append, hl]
  have H := Lib.hid (And.intro hrow hlen)
  clear hrow hlen hl
  go_enter Try.func40, Try.ntmps40
  go_wp2_with (fail)
  refine (rcount_any n _ (by omega)).mono ?_
  rintro e w' ⟨A', c', rfl, ho, hbel⟩
  have hrd := hb.rd.below hbel
  have hz := hbel.size
  go_wp2_with (at_builtin; refine Stop.mk ?_)
  refine Stop.out ?_
  refine wpList_appN _ rfl (.tmp 6) (.tmp 7) _ rfl w.heap.size 5 .u8 1 Try.underlying29 inf_b A' _ c' (countF n) rfl ho A n c b rfl hrd (by unfold maxLen; omega) (by omega) hz ?_
  intro A2 c2 w1 ho' hg hA
  have hb1 : Below w.heap.size w w1 := hbel.grown hg hz (fun g hg => (ho.lt g hg).1)
  have H2 := Lib.hid (And.intro ho' hb1)
  clear ho' hb1 hg hA ho hbel
  go_wp2_with (fail)
  go_ret
  rw [H.out.2, H.out.1]
  exact ⟨A2, c2, rfl, H2.out.1, H2.out.2⟩

/-- a number of so many bytes has no longer count than they and one more -/
theorem countF_fit {x : Int} {k : Nat} (hx : 0 ≤ x ∧ x < 18446744073709551616) (h : x < 256 ^ k) (hk : k = 2 ∨ k = 4 ∨ k = 8) : (countF x).length ≤ k + 1 := by
  unfold countF
  rcases hk with rfl | rfl | rfl
  · split
    · simp
    · rw [if_pos (by simpa using h)]; simp [lowF_length]
  · split
    · simp
    · split
      · simp [lowF_length]
      · rw [if_pos (by simpa using h)]; simp [lowF_length]
  · split
    · simp
    · split
      · simp [lowF_length]
      · split <;> simp [lowF_length]

set_option maxHeartbeats 400000 in
theorem getCount_any (A : Option Addr) (n c : Nat) (b : List Int) (at_ : Int) (w : World) (hb : Arg w A n c b) (ha : -9223372036854775808 ≤ at_ ∧ at_ ≤ 9223372036854775807) :
    Calls Try.prog 51 #[.slice A n c, .int .i64 at_] w fun e w' => e = .returned (.tuple #[.int .u64 (getCountF b at_).1, .int .i64 (getCountF b at_).2.1, .int .i64 (getCountF b at_).2.2]) ∧ Below w.heap.size w w' := by
  have hl := hb.rd.len
  have hn := hb.len
  have C1 := Lib.hid (get_any A n c b at_ 1 w hb ha (by omega))
  have hv := getF_bound hb.isB at_ 1
  cases hg : getF b at_ 1 with
  | mk v q =>
    rw [hg] at hv
    have hv : 0 ≤ v ∧ v < 256 := ⟨hv.1, hv.2.1⟩
    by_cases hq : q = 0
    · subst hq
      obtain ⟨i1, _, i2⟩ := getF_in (b := b) (at_ := at_) (m := 1) (by rw [hg])
      have i2 : at_ + 1 ≤ n := by rw [hl] at i2; exact i2
      by_cases hlt : v < 253
      · have hr : getCountF b at_ = (v, at_ + 1, 0) := by unfold getCountF; rw [hg]; simp only [hlt, if_true]
        have d1 : decide (v < 253) = true := decide_eq_true hlt
        rw [hg] at C1
        rw [hr]
        clear hr hb
        go_enter Try.func51, Try.ntmps51
        go_wp2_with (fail)
        refine C1.out.mono ?_
        rintro e w' ⟨rfl, hbel⟩
        have hz := hbel.size
        go_wp2_with (fail)
        go_ret3
        exact ⟨rfl, hbel⟩
      · have hvs : v = 253 ∨ v = 254 ∨ v = 255 := by omega
        rcases hvs with rfl | rfl | rfl
        · have C2 := Lib.hid fun w' (h : Below w.heap.size w w') => get_any A n c b (at_ + 1) 2 w' (hb.below h) (by omega) (by omega)
          have hr : getCountF b at_ = if (getF b (at_ + 1) 2).2 = 0 then (if ((countF (getF b (at_ + 1) 2).1).length : Int) ≤ 2 then (0, 0, 5) else ((getF b (at_ + 1) 2).1, at_ + 1 + 2, 0)) else (0, 0, (getF b (at_ + 1) 2).2) := by
            unfold getCountF; rw [hg]; rfl
          have hx0 := getF_bound hb.isB (at_ + 1) 2
          rw [hg] at C1
          cases hg2 : getF b (at_ + 1) 2 with
          | mk x y =>
            rw [hg2] at C2 hr hx0
            have hxk : x < 256 ^ 2 := hx0.2.1
            have hx : 0 ≤ x ∧ x < 18446744073709551616 := ⟨hx0.1, hx0.2.2⟩
            clear hx0
            by_cases hy : y = 0
            · subst hy
              obtain ⟨_, _, j2⟩ := getF_in (b := b) (at_ := at_ + 1) (m := 2) (by rw [hg2])
              have j2 : at_ + 1 + 2 ≤ n := by rw [hl] at j2; exact j2
              have C3 := Lib.hid fun w' => count_any x w' hx
              have hcl := countF_len x
              have hcf := countF_fit (k := 2) hx hxk (by omega)
              clear hxk
              rw [if_pos rfl] at hr
              generalize countF x = cx at *
              by_cases hle : (cx.length : Int) ≤ 2
              · rw [if_pos hle] at hr
                rw [hr]
                have d2 : decide ((cx.length : Int) ≤ 2) = true := decide_eq_true hle
                have d3 : ((cx.length : Int) != 3) = true := by rw [bne_iff_ne]; omega
                clear hr hb hlt
                go_enter Try.func51, Try.ntmps51
                go_wp2_with (fail)
                refine C1.out.mono ?_
                rintro e w' ⟨rfl, hbel⟩
                have hz := hbel.size
                go_wp2_with (fail)
                refine (C2.out _ hbel).mono ?_
                rintro e w2 ⟨rfl, hbel2⟩
                have hz2 := hbel2.size
                go_wp2_with (fail)
                refine (C3.out _).mono ?_
                rintro e w3 ⟨A3, c3, rfl, ho3, hbel3⟩
                have hz3 := hbel3.size
                go_wp2_with (fail)
                go_ret3
                exact ⟨rfl, (bThen hbel hbel2).trans (hbel3.mono (by omega))⟩
              · rw [if_neg hle] at hr
                rw [hr]
                have d2 : decide ((cx.length : Int) ≤ 2) = false := decide_eq_false hle
                have d3 : ((cx.length : Int) != 3) = false := by rw [bne_eq_false_iff_eq]; omega
                clear hr hb hlt
                go_enter Try.func51, Try.ntmps51
                go_wp2_with (fail)
                refine C1.out.mono ?_
                rintro e w' ⟨rfl, hbel⟩
                have hz := hbel.size
                go_wp2_with (fail)
                refine (C2.out _ hbel).mono ?_
                rintro e w2 ⟨rfl, hbel2⟩
                have hz2 := hbel2.size
                go_wp2_with (fail)
                refine (C3.out _).mono ?_
                rintro e w3 ⟨A3, c3, rfl, ho3, hbel3⟩
                have hz3 := hbel3.size
                go_wp2_with (fail)
                go_ret3
                exact ⟨rfl, (bThen hbel hbel2).trans (hbel3.mono (by omega))⟩
            · rw [if_neg hy] at hr
              rw [hr]
              have d2 : (y != 0) = true := by rw [bne_iff_ne]; exact hy
              clear hr hb hlt
              go_enter Try.func51, Try.ntmps51
              go_wp2_with (fail)
              refine C1.out.mono ?_
              rintro e w' ⟨rfl, hbel⟩
              have hz := hbel.size
              go_wp2_with (fail)
              refine (C2.out _ hbel).mono ?_
              rintro e w2 ⟨rfl, hbel2⟩
              have hz2 := hbel2.size
              go_wp2_with (fail)
              go_ret3
              exact ⟨rfl, bThen hbel hbel2⟩
        · have C2 := Lib.hid fun w' (h : Below w.heap.size w w') => get_any A n c b (at_ + 1) 4 w' (hb.below h) (by omega) (by omega)
          have hr : getCountF b at_ = if (getF b (at_ + 1) 4).2 = 0 then (if ((countF (getF b (at_ + 1) 4).1).length : Int) ≤ 4 then (0, 0, 5) else ((getF b (at_ + 1) 4).1, at_ + 1 + 4, 0)) else (0, 0, (getF b (at_ + 1) 4).2) := by
            unfold getCountF; rw [hg]; rfl
          have hx0 := getF_bound hb.isB (at_ + 1) 4
          rw [hg] at C1
          cases hg2 : getF b (at_ + 1) 4 with
          | mk x y =>
            rw [hg2] at C2 hr hx0
            have hxk : x < 256 ^ 4 := hx0.2.1
            have hx : 0 ≤ x ∧ x < 18446744073709551616 := ⟨hx0.1, hx0.2.2⟩
            clear hx0
            by_cases hy : y = 0
            · subst hy
              obtain ⟨_, _, j2⟩ := getF_in (b := b) (at_ := at_ + 1) (m := 4) (by rw [hg2])
              have j2 : at_ + 1 + 4 ≤ n := by rw [hl] at j2; exact j2
              have C3 := Lib.hid fun w' => count_any x w' hx
              have hcl := countF_len x
              have hcf := countF_fit (k := 4) hx hxk (by omega)
              clear hxk
              rw [if_pos rfl] at hr
              generalize countF x = cx at *
              by_cases hle : (cx.length : Int) ≤ 4
              · rw [if_pos hle] at hr
                rw [hr]
                have d2 : decide ((cx.length : Int) ≤ 4) = true := decide_eq_true hle
                have d3 : ((cx.length : Int) != 5) = true := by rw [bne_iff_ne]; omega
                clear hr hb hlt
                go_enter Try.func51, Try.ntmps51
                go_wp2_with (fail)
                refine C1.out.mono ?_
                rintro e w' ⟨rfl, hbel⟩
                have hz := hbel.size
                go_wp2_with (fail)
                refine (C2.out _ hbel).mono ?_
                rintro e w2 ⟨rfl, hbel2⟩
                have hz2 := hbel2.size
                go_wp2_with (fail)
                refine (C3.out _).mono ?_
                rintro e w3 ⟨A3, c3, rfl, ho3, hbel3⟩
                have hz3 := hbel3.size
                go_wp2_with (fail)
                go_ret3
                exact ⟨rfl, (bThen hbel hbel2).trans (hbel3.mono (by omega))⟩
              · rw [if_neg hle] at hr
                rw [hr]
                have d2 : decide ((cx.length : Int) ≤ 4) = false := decide_eq_false hle
                have d3 : ((cx.length : Int) != 5) = false := by rw [bne_eq_false_iff_eq]; omega
                clear hr hb hlt
                go_enter Try.func51, Try.ntmps51
                go_wp2_with (fail)
                refine C1.out.mono ?_
                rintro e w' ⟨rfl, hbel⟩
                have hz := hbel.size
                go_wp2_with (fail)
                refine (C2.out _ hbel).mono ?_
                rintro e w2 ⟨rfl, hbel2⟩
                have hz2 := hbel2.size
                go_wp2_with (fail)
                refine (C3.out _).mono ?_
                rintro e w3 ⟨A3, c3, rfl, ho3, hbel3⟩
                have hz3 := hbel3.size
                go_wp2_with (fail)
                go_ret3
                exact ⟨rfl, (bThen hbel hbel2).trans (hbel3.mono (by omega))⟩
            · rw [if_neg hy] at hr
              rw [hr]
              have d2 : (y != 0) = true := by rw [bne_iff_ne]; exact hy
              clear hr hb hlt
              go_enter Try.func51, Try.ntmps51
              go_wp2_with (fail)
              refine C1.out.mono ?_
              rintro e w' ⟨rfl, hbel⟩
              have hz := hbel.size
              go_wp2_with (fail)
              refine (C2.out _ hbel).mono ?_
              rintro e w2 ⟨rfl, hbel2⟩
              have hz2 := hbel2.size
              go_wp2_with (fail)
              go_ret3
              exact ⟨rfl, bThen hbel hbel2⟩
        · have C2 := Lib.hid fun w' (h : Below w.heap.size w w') => get_any A n c b (at_ + 1) 8 w' (hb.below h) (by omega) (by omega)
          have hr : getCountF b at_ = if (getF b (at_ + 1) 8).2 = 0 then (if ((countF (getF b (at_ + 1) 8).1).length : Int) ≤ 8 then (0, 0, 5) else ((getF b (at_ + 1) 8).1, at_ + 1 + 8, 0)) else (0, 0, (getF b (at_ + 1) 8).2) := by
            unfold getCountF; rw [hg]; rfl
          have hx0 := getF_bound hb.isB (at_ + 1) 8
          rw [hg] at C1
          cases hg2 : getF b (at_ + 1) 8 with
          | mk x y =>
            rw [hg2] at C2 hr hx0
            have hxk : x < 256 ^ 8 := hx0.2.1
            have hx : 0 ≤ x ∧ x < 18446744073709551616 := ⟨hx0.1, hx0.2.2⟩
            clear hx0
            by_cases hy : y = 0
            · subst hy
              obtain ⟨_, _, j2⟩ := getF_in (b := b) (at_ := at_ + 1) (m := 8) (by rw [hg2])
              have j2 : at_ + 1 + 8 ≤ n := by rw [hl] at j2; exact j2
              have C3 := Lib.hid fun w' => count_any x w' hx
              have hcl := countF_len x
              have hcf := countF_fit (k := 8) hx hxk (by omega)
              clear hxk
              rw [if_pos rfl] at hr
              generalize countF x = cx at *
              by_cases hle : (cx.length : Int) ≤ 8
              · rw [if_pos hle] at hr
                rw [hr]
                have d2 : decide ((cx.length : Int) ≤ 8) = true := decide_eq_true hle
                have d3 : ((cx.length : Int) != 9) = true := by rw [bne_iff_ne]; omega
                clear hr hb hlt
                go_enter Try.func51, Try.ntmps51
                go_wp2_with (fail)
                refine C1.out.mono ?_
                rintro e w' ⟨rfl, hbel⟩
                have hz := hbel.size
                go_wp2_with (fail)
                refine (C2.out _ hbel).mono ?_
                rintro e w2 ⟨rfl, hbel2⟩
                have hz2 := hbel2.size
                go_wp2_with (fail)
                refine (C3.out _).mono ?_
                rintro e w3 ⟨A3, c3, rfl, ho3, hbel3⟩
                have hz3 := hbel3.size
                go_wp2_with (fail)
                go_ret3
                exact ⟨rfl, (bThen hbel hbel2).trans (hbel3.mono (by omega))⟩
              · rw [if_neg hle] at hr
                rw [hr]
                have d2 : decide ((cx.length : Int) ≤ 8) = false := decide_eq_false hle
                have d3 : ((cx.length : Int) != 9) = false := by rw [bne_eq_false_iff_eq]; omega
                clear hr hb hlt
                go_enter Try.func51, Try.ntmps51
                go_wp2_with (fail)
                refine C1.out.mono ?_
                rintro e w' ⟨rfl, hbel⟩
                have hz := hbel.size
                go_wp2_with (fail)
                refine (C2.out _ hbel).mono ?_
                rintro e w2 ⟨rfl, hbel2⟩
                have hz2 := hbel2.size
                go_wp2_with (fail)
                refine (C3.out _).mono ?_
                rintro e w3 ⟨A3, c3, rfl, ho3, hbel3⟩
                have hz3 := hbel3.size
                go_wp2_with (fail)
                go_ret3
                exact ⟨rfl, (bThen hbel hbel2).trans (hbel3.mono (by omega))⟩
            · rw [if_neg hy] at hr
              rw [hr]
              have d2 : (y != 0) = true := by rw [bne_iff_ne]; exact hy
              clear hr hb hlt
              go_enter Try.func51, Try.ntmps51
              go_wp2_with (fail)
              refine C1.out.mono ?_
              rintro e w' ⟨rfl, hbel⟩
              have hz := hbel.size
              go_wp2_with (fail)
              refine (C2.out _ hbel).mono ?_
              rintro e w2 ⟨rfl, hbel2⟩
              have hz2 := hbel2.size
              go_wp2_with (fail)
              go_ret3
              exact ⟨rfl, bThen hbel hbel2⟩
    · have hr : getCountF b at_ = (0, 0, q) := by unfold getCountF; rw [hg]; exact if_neg hq
      have d1 : (q != 0) = true := by rw [bne_iff_ne]; exact hq
      rw [hg] at C1
      rw [hr]
      clear hr hb
      go_enter Try.func51, Try.ntmps51
      go_wp2_with (fail)
      refine C1.out.mono ?_
      rintro e w' ⟨rfl, hbel⟩
      have hz := hbel.size
      go_wp2_with (fail)
      go_ret3
      exact ⟨rfl, hbel⟩

set_option maxHeartbeats 400000 in
theorem rgetCount_any (A : Option Addr) (n c : Nat) (b : List Int) (at_ : Int) (w : World) (hb : Arg w A n c b) (ha : -9223372036854775808 ≤ at_ ∧ at_ ≤ 9223372036854775807) :
    Calls Try.prog 55 #[.slice A n c, .int .i64 at_] w fun e w' => e = .returned (.tuple #[.int .u64 (getCountF b at_).1, .int .i64 (getCountF b at_).2.1, .int .i64 (getCountF b at_).2.2]) ∧ Below w.heap.size w w' := by
  have hl := hb.rd.len
  have hn := hb.len
  have C1 := Lib.hid (rpart_any A n c b at_ 1 w hb ha (by omega))
  have hv := getF_bound hb.isB at_ 1
  cases hg : getF b at_ 1 with
  | mk v q =>
    rw [hg] at hv
    have hv : 0 ≤ v ∧ v < 256 := ⟨hv.1, hv.2.1⟩
    by_cases hq : q = 0
    · subst hq
      obtain ⟨i1, _, i2⟩ := getF_in (b := b) (at_ := at_) (m := 1) (by rw [hg])
      have i2 : at_ + 1 ≤ n := by rw [hl] at i2; exact i2
      by_cases hlt : v < 253
      · have hr : getCountF b at_ = (v, at_ + 1, 0) := by unfold getCountF; rw [hg]; simp only [hlt, if_true]
        have d1 : decide (v < 253) = true := decide_eq_true hlt
        rw [getF_one hg] at C1
        rw [hr]
        clear hr hb
        go_enter Try.func55, Try.ntmps55
        go_wp2_with (fail)
        refine C1.out.mono ?_
        rintro e w' ⟨A', c', rfl, ho, hbel⟩
        have hrd : RdN w' .u8 A' 1 [v] := ho.rd
        obtain ⟨ad, rfl, hbk, hc0⟩ := hrd.at_ (show 0 < 1 by omega)
        have hc0' : w'.cell? ad = some (.int .u8 v) := hc0
        have hz := hbel.size
        go_wp2_with (fail)
        go_ret3
        exact ⟨rfl, hbel⟩
      · have hvs : v = 253 ∨ v = 254 ∨ v = 255 := by omega
        rcases hvs with rfl | rfl | rfl
        · have C2 := Lib.hid fun w' (h : Below w.heap.size w w') => rget_any A n c b (at_ + 1) 2 w' (hb.below h) (by omega) (by omega)
          have hr : getCountF b at_ = if (getF b (at_ + 1) 2).2 = 0 then (if ((countF (getF b (at_ + 1) 2).1).length : Int) ≤ 2 then (0, 0, 5) else ((getF b (at_ + 1) 2).1, at_ + 1 + 2, 0)) else (0, 0, (getF b (at_ + 1) 2).2) := by
            unfold getCountF; rw [hg]; rfl
          have hx0 := getF_bound hb.isB (at_ + 1) 2
          rw [getF_one hg] at C1
          cases hg2 : getF b (at_ + 1) 2 with
          | mk x y =>
            rw [hg2] at C2 hr hx0
            have hxk : x < 256 ^ 2 := hx0.2.1
            have hx : 0 ≤ x ∧ x < 18446744073709551616 := ⟨hx0.1, hx0.2.2⟩
            clear hx0
            by_cases hy : y = 0
            · subst hy
              obtain ⟨_, _, j2⟩ := getF_in (b := b) (at_ := at_ + 1) (m := 2) (by rw [hg2])
              have j2 : at_ + 1 + 2 ≤ n := by rw [hl] at j2; exact j2
              have C3 := Lib.hid fun w' => rcount_any x w' hx
              have hcl := countF_len x
              have hcf := countF_fit (k := 2) hx hxk (by omega)
              clear hxk
              rw [if_pos rfl] at hr
              generalize countF x = cx at *
              by_cases hle : (cx.length : Int) ≤ 2
              · rw [if_pos hle] at hr
                rw [hr]
                have d2 : decide ((cx.length : Int) ≤ 2) = true := decide_eq_true hle
                have d3 : ((cx.length : Int) != 3) = true := by rw [bne_iff_ne]; omega
                clear hr hb hlt
                go_enter Try.func55, Try.ntmps55
                go_wp2_with (fail)
                refine C1.out.mono ?_
                rintro e w' ⟨A', c', rfl, ho, hbel⟩
                have hrd : RdN w' .u8 A' 1 [253] := ho.rd
                obtain ⟨ad, rfl, hbk, hc0⟩ := hrd.at_ (show 0 < 1 by omega)
                have hc0' : w'.cell? ad = some (.int .u8 253) := hc0
                have hz := hbel.size
                go_wp2_with (fail)
                refine (C2.out _ hbel).mono ?_
                rintro e w2 ⟨rfl, hbel2⟩
                have hz2 := hbel2.size
                go_wp2_with (fail)
                refine (C3.out _).mono ?_
                rintro e w3 ⟨A3, c3, rfl, ho3, hbel3⟩
                have hz3 := hbel3.size
                go_wp2_with (fail)
                go_ret3
                exact ⟨rfl, (bThen hbel hbel2).trans (hbel3.mono (by omega))⟩
              · rw [if_neg hle] at hr
                rw [hr]
                have d2 : decide ((cx.length : Int) ≤ 2) = false := decide_eq_false hle
                have d3 : ((cx.length : Int) != 3) = false := by rw [bne_eq_false_iff_eq]; omega
                clear hr hb hlt
                go_enter Try.func55, Try.ntmps55
                go_wp2_with (fail)
                refine C1.out.mono ?_
                rintro e w' ⟨A', c', rfl, ho, hbel⟩
                have hrd : RdN w' .u8 A' 1 [253] := ho.rd
                obtain ⟨ad, rfl, hbk, hc0⟩ := hrd.at_ (show 0 < 1 by omega)
                have hc0' : w'.cell? ad = some (.int .u8 253) := hc0
                have hz := hbel.size
                go_wp2_with (fail)
                refine (C2.out _ hbel).mono ?_
                rintro e w2 ⟨rfl, hbel2⟩
                have hz2 := hbel2.size
                go_wp2_with (fail)
                refine (C3.out _).mono ?_
                rintro e w3 ⟨A3, c3, rfl, ho3, hbel3⟩
                have hz3 := hbel3.size
                go_wp2_with (fail)
                go_ret3
                exact ⟨rfl, (bThen hbel hbel2).trans (hbel3.mono (by omega))⟩
            · rw [if_neg hy] at hr
              rw [hr]
              have d2 : (y != 0) = true := by rw [bne_iff_ne]; exact hy
              clear hr hb hlt
              go_enter Try.func55, Try.ntmps55
              go_wp2_with (fail)
              refine C1.out.mono ?_
              rintro e w' ⟨A', c', rfl, ho, hbel⟩
              have hrd : RdN w' .u8 A' 1 [253] := ho.rd
              obtain ⟨ad, rfl, hbk, hc0⟩ := hrd.at_ (show 0 < 1 by omega)
              have hc0' : w'.cell? ad = some (.int .u8 253) := hc0
              have hz := hbel.size
              go_wp2_with (fail)
              refine (C2.out _ hbel).mono ?_
              rintro e w2 ⟨rfl, hbel2⟩
              have hz2 := hbel2.size
              go_wp2_with (fail)
              go_ret3
              exact ⟨rfl, bThen hbel hbel2⟩
        · have C2 := Lib.hid fun w' (h : Below w.heap.size w w') => rget_any A n c b (at_ + 1) 4 w' (hb.below h) (by omega) (by omega)
          have hr : getCountF b at_ = if (getF b (at_ + 1) 4).2 = 0 then (if ((countF (getF b (at_ + 1) 4).1).length : Int) ≤ 4 then (0, 0, 5) else ((getF b (at_ + 1) 4).1, at_ + 1 + 4, 0)) else (0, 0, (getF b (at_ + 1) 4).2) := by
            unfold getCountF; rw [hg]; rfl
          have hx0 := getF_bound hb.isB (at_ + 1) 4
          rw [getF_one hg] at C1
          cases hg2 : getF b (at_ + 1) 4 with
          | mk x y =>
            rw [hg2] at C2 hr hx0
            have hxk : x < 256 ^ 4 := hx0.2.1
            have hx : 0 ≤ x ∧ x < 18446744073709551616 := ⟨hx0.1, hx0.2.2⟩
            clear hx0
            by_cases hy : y = 0
            · subst hy
              obtain ⟨_, _, j2⟩ := getF_in (b := b) (at_ := at_ + 1) (m := 4) (by rw [hg2])
              have j2 : at_ + 1 + 4 ≤ n := by rw [hl] at j2; exact j2
              have C3 := Lib.hid fun w' => rcount_any x w' hx
              have hcl := countF_len x
              have hcf := countF_fit (k := 4) hx hxk (by omega)
              clear hxk
              rw [if_pos rfl] at hr
              generalize countF x = cx at *
              by_cases hle : (cx.length : Int) ≤ 4
              · rw [if_pos hle] at hr
                rw [hr]
                have d2 : decide ((cx.length : Int) ≤ 4) = true := decide_eq_true hle
                have d3 : ((cx.length : Int) != 5) = true := by rw [bne_iff_ne]; omega
                clear hr hb hlt
                go_enter Try.func55, Try.ntmps55
                go_wp2_with (fail)
                refine C1.out.mono ?_
                rintro e w' ⟨A', c', rfl, ho, hbel⟩
                have hrd : RdN w' .u8 A' 1 [254] := ho.rd
                obtain ⟨ad, rfl, hbk, hc0⟩ := hrd.at_ (show 0 < 1 by omega)
                have hc0' : w'.cell? ad = some (.int .u8 254) := hc0
                have hz := hbel.size
                go_wp2_with (fail)
                refine (C2.out _ hbel).mono ?_
                rintro e w2 ⟨rfl, hbel2⟩
                have hz2 := hbel2.size
                go_wp2_with (fail)
                refine (C3.out _).mono ?_
                rintro e w3 ⟨A3, c3, rfl, ho3, hbel3⟩
                have hz3 := hbel3.size
                go_wp2_with (fail)
                go_ret3
                exact ⟨rfl, (bThen hbel hbel2).trans (hbel3.mono (by omega))⟩
              · rw [if_neg hle] at hr
                rw [hr]
                have d2 : decide ((cx.length : Int) ≤ 4) = false := decide_eq_false hle
                have d3 : ((cx.length : Int) != 5) = false := by rw [bne_eq_false_iff_eq]; omega
                clear hr hb hlt
                go_enter Try.func55, Try.ntmps55
                go_wp2_with (fail)
                refine C1.out.mono ?_
                rintro e w' ⟨A', c', rfl, ho, hbel⟩
                have hrd : RdN w' .u8 A' 1 [254] := ho.rd
                obtain ⟨ad, rfl, hbk, hc0⟩ := hrd.at_ (show 0 < 1 by omega)
                have hc0' : w'.cell? ad = some (.int .u8 254) := hc0
                have hz := hbel.size
                go_wp2_with (fail)
                refine (C2.out _ hbel).mono ?_
                rintro e w2 ⟨rfl, hbel2⟩
                have hz2 := hbel2.size
                go_wp2_with (fail)
                refine (C3.out _).mono ?_
                rintro e w3 ⟨A3, c3, rfl, ho3, hbel3⟩
                have hz3 := hbel3.size
                go_wp2_with (fail)
                go_ret3
                exact ⟨rfl, (bThen hbel hbel2).trans (hbel3.mono (by omega))⟩
            · rw [if_neg hy] at hr
              rw [hr]
              have d2 : (y != 0) = true := by rw [bne_iff_ne]; exact hy
              clear hr hb hlt
              go_enter Try.func55, Try.ntmps55
              go_wp2_with (fail)
              refine C1.out.mono ?_
              rintro e w' ⟨A', c', rfl, ho, hbel⟩
              have hrd : RdN w' .u8 A' 1 [254] := ho.rd
              obtain ⟨ad, rfl, hbk, hc0⟩ := hrd.at_ (show 0 < 1 by omega)
              have hc0' : w'.cell? ad = some (.int .u8 254) := hc0
              have hz := hbel.size
              go_wp2_with (fail)
              refine (C2.out _ hbel).mono ?_
              rintro e w2 ⟨rfl, hbel2⟩
              have hz2 := hbel2.size
              go_wp2_with (fail)
              go_ret3
              exact ⟨rfl, bThen hbel hbel2⟩
        · have C2 := Lib.hid fun w' (h : Below w.heap.size w w') => rget_any A n c b (at_ + 1) 8 w' (hb.below h) (by omega) (by omega)
          have hr : getCountF b at_ = if (getF b (at_ + 1) 8).2 = 0 then (if ((countF (getF b (at_ + 1) 8).1).length : Int) ≤ 8 then (0, 0, 5) else ((getF b (at_ + 1) 8).1, at_ + 1 + 8, 0)) else (0, 0, (getF b (at_ + 1) 8).2) := by
            unfold getCountF; rw [hg]; rfl
          have hx0 := getF_bound hb.isB (at_ + 1) 8
          rw [getF_one hg] at C1
          cases hg2 : getF b (at_ + 1) 8 with
          | mk x y =>
            rw [hg2] at C2 hr hx0
            have hxk : x < 256 ^ 8 := hx0.2.1
            have hx : 0 ≤ x ∧ x < 18446744073709551616 := ⟨hx0.1, hx0.2.2⟩
            clear hx0
            by_cases hy : y = 0
            · subst hy
              obtain ⟨_, _, j2⟩ := getF_in (b := b) (at_ := at_ + 1) (m := 8) (by rw [hg2])
              have j2 : at_ + 1 + 8 ≤ n := by rw [hl] at j2; exact j2
              have C3 := Lib.hid fun w' => rcount_any x w' hx
              have hcl := countF_len x
              have hcf := countF_fit (k := 8) hx hxk (by omega)
              clear hxk
              rw [if_pos rfl] at hr
              generalize countF x = cx at *
              by_cases hle : (cx.length : Int) ≤ 8
              · rw [if_pos hle] at hr
                rw [hr]
                have d2 : decide ((cx.length : Int) ≤ 8) = true := decide_eq_true hle
                have d3 : ((cx.length : Int) != 9) = true := by rw [bne_iff_ne]; omega
                clear hr hb hlt
                go_enter Try.func55, Try.ntmps55
                go_wp2_with (fail)
                refine C1.out.mono ?_
                rintro e w' ⟨A', c', rfl, ho, hbel⟩
                have hrd : RdN w' .u8 A' 1 [255] := ho.rd
                obtain ⟨ad, rfl, hbk, hc0⟩ := hrd.at_ (show 0 < 1 by omega)
                have hc0' : w'.cell? ad = some (.int .u8 255) := hc0
                have hz := hbel.size
                go_wp2_with (fail)
                refine (C2.out _ hbel).mono ?_
                rintro e w2 ⟨rfl, hbel2⟩
                have hz2 := hbel2.size
                go_wp2_with (fail)
                refine (C3.out _).mono ?_
                rintro e w3 ⟨A3, c3, rfl, ho3, hbel3⟩
                have hz3 := hbel3.size
                go_wp2_with (fail)
                go_ret3
                exact ⟨rfl, (bThen hbel hbel2).trans (hbel3.mono (by omega))⟩
              · rw [if_neg hle] at hr
                rw [hr]
                have d2 : decide ((cx.length : Int) ≤ 8) = false := decide_eq_false hle
                have d3 : ((cx.length : Int) != 9) = false := by rw [bne_eq_false_iff_eq]; omega
                clear hr hb hlt
                go_enter Try.func55, Try.ntmps55
                go_wp2_with (fail)
                refine C1.out.mono ?_
                rintro e w' ⟨A', c', rfl, ho, hbel⟩
                have hrd : RdN w' .u8 A' 1 [255] := ho.rd
                obtain ⟨ad, rfl, hbk, hc0⟩ := hrd.at_ (show 0 < 1 by omega)
                have hc0' : w'.cell? ad = some (.int .u8 255) := hc0
                have hz := hbel.size
                go_wp2_with (fail)
                refine (C2.out _ hbel).mono ?_
                rintro e w2 ⟨rfl, hbel2⟩
                have hz2 := hbel2.size
                go_wp2_with (fail)
                refine (C3.out _).mono ?_
                rintro e w3 ⟨A3, c3, rfl, ho3, hbel3⟩
                have hz3 := hbel3.size
                go_wp2_with (fail)
                go_ret3
                exact ⟨rfl, (bThen hbel hbel2).trans (hbel3.mono (by omega))⟩
            · rw [if_neg hy] at hr
              rw [hr]
              have d2 : (y != 0) = true := by rw [bne_iff_ne]; exact hy
              clear hr hb hlt
              go_enter Try.func55, Try.ntmps55
              go_wp2_with (fail)
              refine C1.out.mono ?_
              rintro e w' ⟨A', c', rfl, ho, hbel⟩
              have hrd : RdN w' .u8 A' 1 [255] := ho.rd
              obtain ⟨ad, rfl, hbk, hc0⟩ := hrd.at_ (show 0 < 1 by omega)
              have hc0' : w'.cell? ad = some (.int .u8 255) := hc0
              have hz := hbel.size
              go_wp2_with (fail)
              refine (C2.out _ hbel).mono ?_
              rintro e w2 ⟨rfl, hbel2⟩
              have hz2 := hbel2.size
              go_wp2_with (fail)
              go_ret3
              exact ⟨rfl, bThen hbel hbel2⟩
    · have hr : getCountF b at_ = (0, 0, q) := by unfold getCountF; rw [hg]; exact if_neg hq
      have d1 : (q != 0) = true := by rw [bne_iff_ne]; exact hq
      rw [getF_one_err hg hq] at C1
      rw [hr]
      clear hr hb
      go_enter Try.func55, Try.ntmps55
      go_wp2_with (fail)
      refine C1.out.mono ?_
      rintro e w' ⟨A', c', rfl, ho, hbel⟩
      have hz := hbel.size
      go_wp2_with (fail)
      go_ret3
      exact ⟨rfl, hbel⟩
end Go.Proofs.Ytejablcdpakgoaa
