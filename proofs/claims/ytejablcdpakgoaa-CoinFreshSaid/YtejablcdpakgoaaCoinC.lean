/- What Less answers, in the program and in the reference. -/
import Derived.Test.YtejablcdpakgoaaCoinB
import Derived.Test.YtejablcdpakgoaaCmp
import Derived.Deep.RegionWith
namespace Go.Proofs.Ytejablcdpakgoaa
open Go.RowKit Go.Proofs En Co
set_option linter.unusedVariables false
set_option linter.unusedSimpArgs false

theorem lexB_cmp : ∀ (xs ys r s : List Int), xs.length = ys.length → lexB (xs ++ r) (ys ++ s) = if cmpL xs ys = 0 then lexB r s else decide (cmpL xs ys < 0) := by
  intro xs
  induction xs with
  | nil =>
    intro ys r s h
    cases ys with
    | nil => rfl
    | cons y ys => simp at h
  | cons x xs ih =>
    intro ys r s h
    cases ys with
    | nil => simp at h
    | cons y ys =>
      have hl : xs.length = ys.length := by simpa using h
      show (if x = y then lexB (xs ++ r) (ys ++ s) else decide (x < y)) = _
      unfold cmpL
      by_cases h1 : x < y
      · have h3 : ¬ x = y := by omega
        rw [if_neg h3, if_pos h1]
        rw [if_neg (by decide), decide_eq_true h1]
        rfl
      · rw [if_neg h1]
        by_cases h2 : y < x
        · have h3 : ¬ x = y := by omega
          rw [if_neg h3, if_pos h2, if_neg (by decide), decide_eq_false h1]
          rfl
        · have h3 : x = y := by omega
          rw [if_pos h3, if_neg h2, ih ys r s hl]
theorem lessF_eq (a b : Pt) (ha : a.ok) (hb : b.ok) : lessF a b = if cmpL a.tx b.tx = 0 then (if a.n = b.n then decide (a.h < b.h) else decide (a.n < b.n)) else decide (cmpL a.tx b.tx < 0) := by
  unfold lessF Pt.key
  rw [lexB_cmp _ _ _ _ (by rw [ha.len, hb.len])]
  congr 1
  show (if a.n = b.n then (if a.h = b.h then false else decide (a.h < b.h)) else decide (a.n < b.n)) = _
  by_cases h : a.h = b.h
  · rw [if_pos h, decide_eq_false (show ¬ a.h < b.h by omega)]
  · rw [if_neg h]
/-- two boxes, one behind the other -/
theorem two_box (w : World) (x y : Obj) : ((w.alloc x).alloc y).heap[w.heap.size]? = some x ∧ ((w.alloc x).alloc y).heap[w.heap.size + 1]? = some y := by
  constructor
  · rw [Below.heap_alloc (w.alloc x) y _ (by simp)]
    exact heap_alloc_new w _
  · have h := heap_alloc_new (w.alloc x) y
    have e : (w.alloc x).heap.size = w.heap.size + 1 := by simp
    rw [e] at h
    exact h
theorem pt_rd' {w : World} {p : Pt} (hp : p.ok) {g : Nat} {more : List Value} {t : TypeId} (hg : w.heap[g]? = some (.cells (pc p ++ more).toArray t (0, 0))) : RdN w .u8 (some ⟨g, 0, none⟩) 32 p.tx := by
  refine ⟨by rw [ns_length, hp.len], fun _ => ⟨_, rfl, (Array.getElem?_eq_some_iff.1 hg).1, fun j u hu => ?_⟩⟩
  rw [add_new, cell_of_row w g j _ _ _ hg]
  have hj : j < p.tx.length := by have := (List.getElem?_eq_some_iff.1 hu).1; rwa [ns_length] at this
  have : (pc p ++ more)[j]? = some u := by unfold pc; rw [List.append_assoc, List.getElem?_append_left (by rw [ns_length]; exact hj)]; exact hu
  simpa using this

set_option maxHeartbeats 400000 in
theorem less_any (a b : Pt) (ha : a.ok) (hb : b.ok) (w : World) :
    Calls Try.prog 30 #[.agg (pc a).toArray, .agg (pc b).toArray] w fun e w' => e = .returned (.bool (lessF a b)) ∧ Below w.heap.size w w' := by
  have hle := lessF_eq a b ha hb
  obtain ⟨h0, h1⟩ := two_box w (.cells (pc a).toArray 27) (.cells (pc b).toArray 27)
  have hbel : Below w.heap.size w ((w.alloc (.cells (pc a).toArray 27)).alloc (.cells (pc b).toArray 27)) := belA ((Below.refl _ _).alloc (Nat.le_refl _) _) _ (Nat.le_refl _)
  obtain ⟨an, ah⟩ := pt_cells (more := []) ha (by rw [List.append_nil]; exact h0)
  obtain ⟨bn, bh⟩ := pt_cells (more := []) hb (by rw [List.append_nil]; exact h1)
  have ra := pt_rd' (more := []) ha (by rw [List.append_nil]; exact h0)
  have rb := pt_rd' (more := []) hb (by rw [List.append_nil]; exact h1)
  have C := Lib.hid (compare_any _ 32 32 a.tx _ 32 32 b.tx _ ra.drew rb.drew ha.isB hb.isB)
  have BL := Lib.hid hbel
  clear h0 h1 ra rb hbel
  generalize cmpL a.tx b.tx = r at *
  by_cases hr : r = 0
  · rw [if_pos hr] at hle
    have d1 : (r != 0) = false := by rw [bne_eq_false_iff_eq]; exact hr
    by_cases hn : a.n = b.n
    · rw [if_pos hn] at hle
      have LE := Lib.hid hle
      clear hle
      have d2 : (a.n != b.n) = false := by rw [bne_eq_false_iff_eq]; exact hn
      clear hr hn
      go_enter Try.func30, Try.ntmps30
      go_wp2_with (fail)
      go_region_with ((go_at_call 47; (with_reducible refine C.out.mono ?_); rintro e w1 ⟨rfl, rfl⟩))
      go_wp2_with (fail)
      go_ret
      exact ⟨by rw [LE.out]; rfl, BL.out.drew⟩
    · rw [if_neg hn] at hle
      have LE := Lib.hid hle
      clear hle
      have d2 : (a.n != b.n) = true := by rw [bne_iff_ne]; exact hn
      clear hr hn
      go_enter Try.func30, Try.ntmps30
      go_wp2_with (fail)
      go_region_with ((go_at_call 47; (with_reducible refine C.out.mono ?_); rintro e w1 ⟨rfl, rfl⟩))
      go_wp2_with (fail)
      go_ret
      exact ⟨by rw [LE.out]; rfl, BL.out.drew⟩
  · rw [if_neg hr] at hle
    have d1 : (r != 0) = true := by rw [bne_iff_ne]; exact hr
    have LE := Lib.hid hle
    clear hle
    clear hr
    go_enter Try.func30, Try.ntmps30
    go_wp2_with (fail)
    go_region_with ((go_at_call 47; (with_reducible refine C.out.mono ?_); rintro e w1 ⟨rfl, rfl⟩))
    go_wp2_with (fail)
    go_ret
    exact ⟨by rw [LE.out]; rfl, BL.out.drew⟩

theorem cmpL_take {xs ys : List Int} {k : Nat} (h : xs.take k = ys.take k) (hk : k < xs.length) (hk2 : k < ys.length) (hne : xs.getD k 0 ≠ ys.getD k 0) : cmpL xs ys = if xs.getD k 0 < ys.getD k 0 then -1 else 1 := by
  induction k generalizing xs ys with
  | zero =>
    match xs, ys with
    | [], _ => simp at hk
    | _, [] => simp at hk2
    | x :: xs, y :: ys =>
      have h1 : (x :: xs).getD 0 0 = x := rfl
      have h2 : (y :: ys).getD 0 0 = y := rfl
      rw [h1, h2] at hne ⊢
      unfold cmpL
      by_cases h3 : x < y
      · rw [if_pos h3, if_pos h3]
      · rw [if_neg h3, if_neg h3, if_pos (by omega)]
  | succ k ih =>
    match xs, ys with
    | [], _ => simp at hk
    | _, [] => simp at hk2
    | x :: xs, y :: ys =>
      simp only [List.take_succ_cons, List.cons.injEq] at h
      obtain ⟨h1, h2⟩ := h
      subst h1
      have e1 : (x :: xs).getD (k + 1) 0 = xs.getD k 0 := by rw [List.getD_eq_getElem?_getD, List.getD_eq_getElem?_getD, List.getElem?_cons_succ]
      have e2 : (x :: ys).getD (k + 1) 0 = ys.getD k 0 := by rw [List.getD_eq_getElem?_getD, List.getD_eq_getElem?_getD, List.getElem?_cons_succ]
      rw [e1, e2] at hne ⊢
      unfold cmpL
      rw [if_neg (Int.lt_irrefl x), if_neg (Int.lt_irrefl x)]
      exact ih h2 (by simpa using hk) (by simpa using hk2) hne
theorem cmpL_self (xs : List Int) : cmpL xs xs = 0 := by
  induction xs with
  | nil => rfl
  | cons x xs ih => unfold cmpL; rw [if_neg (Int.lt_irrefl x), if_neg (Int.lt_irrefl x), ih]

set_option maxHeartbeats 1000000 in
theorem rless_any (a b : Pt) (ha : a.ok) (hb : b.ok) (w : World) :
    Calls Try.prog 31 #[.agg (pc a).toArray, .agg (pc b).toArray] w fun e w' => e = .returned (.bool (lessF a b)) ∧ Below w.heap.size w w' := by
  have hle := lessF_eq a b ha hb
  obtain ⟨h0, h1⟩ := two_box w (.cells (pc a).toArray 27) (.cells (pc b).toArray 27)
  have hbel : Below w.heap.size w ((w.alloc (.cells (pc a).toArray 27)).alloc (.cells (pc b).toArray 27)) := belA ((Below.refl _ _).alloc (Nat.le_refl _) _) _ (Nat.le_refl _)
  have H0 := Lib.hid (And.intro hle (And.intro hbel (And.intro h0 h1)))
  have HA := Lib.hid ha.len
  have HB := Lib.hid hb.len
  clear hle hbel h0 h1
  go_enter Try.func31, Try.ntmps31
  go_wp2_with (fail)
  go_loopw [5] (fun i wr => ∃ k : Nat, k ≤ 32 ∧ i = .int .i64 k ∧ a.tx.take k = b.tx.take k ∧ Below w.heap.size w wr ∧ wr.heap[w.heap.size]? = some (.cells (pc a).toArray 27 (0, 0)) ∧ wr.heap[w.heap.size + 1]? = some (.cells (pc b).toArray 27 (0, 0))) (fun i _ => 32 - (intOf i).toNat)
  case atStart => exact ⟨0, by omega, rfl, by simp, H0.out.2⟩
  case round =>
    obtain ⟨k, hk, rfl, ht, hbel, h0, h1⟩ := hrel
    by_cases hlt : k < 32
    · have ca := pt_cell (more := []) ha (by rw [List.append_nil]; exact h0) hlt
      have cb := pt_cell (more := []) hb (by rw [List.append_nil]; exact h1) hlt
      have d0 : decide ((k : Int) < 32) = true := decide_eq_true (by omega)
      have i1 : (0 : Int) ≤ (k : Int) := by omega
      have i2 : (k : Int) < 32 := by omega
      obtain ⟨x, hx⟩ : ∃ x, a.tx.getD k 0 = x := ⟨_, rfl⟩
      obtain ⟨y, hy⟩ : ∃ y, b.tx.getD k 0 = y := ⟨_, rfl⟩
      rw [hx] at ca
      rw [hy] at cb
      have HH := Lib.hid (And.intro ht (And.intro hbel (And.intro h0 (And.intro h1 (And.intro hx hy)))))
      clear ht hbel h0 h1 hx hy
      by_cases hxy : x = y
      · have d1 : (x != y) = false := by rw [bne_eq_false_iff_eq]; exact hxy
        have XY := Lib.hid hxy
        clear hxy
        go_wp2_with (fail)
        go_quiet (fail)
        go_wp2_with (fail)
        go_roundw
        case rel => exact ⟨k + 1, by omega, by go_num, take_eq_snoc (by rw [HA.out]; exact hlt) (by rw [HB.out]; exact hlt) HH.out.1 (by rw [HH.out.2.2.2.2.1, HH.out.2.2.2.2.2]; exact XY.out), belN HH.out.2.1 _, HH.out.2.2.1, HH.out.2.2.2.1⟩
        case measure => simp [intOf]; omega
      · have d1 : (x != y) = true := by rw [bne_iff_ne]; exact hxy
        have hl : lessF a b = decide (x < y) := by
          obtain ⟨q1, _, _, _, q5, q6⟩ := HH.out
          have hc := cmpL_take q1 (by rw [HA.out]; exact hlt) (by rw [HB.out]; exact hlt) (by rw [q5, q6]; exact hxy)
          rw [q5, q6] at hc
          rw [H0.out.1, hc]
          by_cases h : x < y
          · rw [if_pos h, decide_eq_true h]; rfl
          · rw [if_neg h, decide_eq_false h]; rfl
        have L := Lib.hid hl
        clear hxy hl
        go_wp2_with (fail)
        go_quiet (fail)
        go_wp2_with (fail)
        go_quiet (fail)
        go_wp2_with (fail)
        go_ret
        exact ⟨by rw [L.out]; rfl, belN (belN HH.out.2.1 _) _⟩
    · obtain rfl : k = 32 := by omega
      obtain ⟨an, ah⟩ := pt_cells (more := []) ha (by rw [List.append_nil]; exact h0)
      obtain ⟨bn, bh⟩ := pt_cells (more := []) hb (by rw [List.append_nil]; exact h1)
      have hle := H0.out.1
      rw [List.take_of_length_le (by rw [HA.out]; exact Nat.le_refl _), List.take_of_length_le (by rw [HB.out]; exact Nat.le_refl _)] at ht
      rw [ht, cmpL_self, if_pos rfl] at hle
      have d0 : decide (((32 : Nat) : Int) < 32) = false := by decide
      have BL := Lib.hid hbel
      clear ht hbel h0 h1 hlt
      by_cases hn : a.n = b.n
      · rw [if_pos hn] at hle
        have LE := Lib.hid hle
        have d2 : (a.n != b.n) = false := by rw [bne_eq_false_iff_eq]; exact hn
        clear hle hn
        go_wp2_with (fail)
        go_ret
        exact ⟨by rw [LE.out]; rfl, BL.out⟩
      · rw [if_neg hn] at hle
        have LE := Lib.hid hle
        have d2 : (a.n != b.n) = true := by rw [bne_iff_ne]; exact hn
        clear hle hn
        go_wp2_with (fail)
        go_ret
        exact ⟨by rw [LE.out]; rfl, BL.out⟩
end Go.Proofs.Ytejablcdpakgoaa
