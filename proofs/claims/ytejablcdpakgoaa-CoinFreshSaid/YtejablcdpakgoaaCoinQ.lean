/- The walk of the statement CoinOrders. -/
import Derived.Test.YtejablcdpakgoaaCoinO
namespace Go.Proofs.Ytejablcdpakgoaa
open Go.RowKit Go.Proofs En Co
set_option linter.unusedVariables false
set_option linter.unusedSimpArgs false
attribute [local go_sem ↓] ld_point_eq ld_coin_eq ld_hash_eq st_point_eq st_coin_eq bd_point_eq bd_coin_eq
attribute [local go_sem] ld_point_run ld_coin_run ld_hash_run st_point_run st_coin_run bd_point_zero bd_coin_zero bd_point_of bd_coin_of hash_at rowIs_34 rowIs_37 rowIs_both hasAt_both cellsAt_both

noncomputable def eqB (cs ds : Array Value) : Bool := @decide (cs = ds) (Classical.propDecidable _)
theorem pc_inj {a b : Pt} (ha : a.ok) (hb : b.ok) (h : (pc a).toArray = (pc b).toArray) : a = b := by
  have h : pc a = pc b := by have := congrArg Array.toList h; simpa using this
  have h1 := List.append_inj h (by rw [ns_length, ns_length, ha.len, hb.len])
  have h2 := h1.2
  simp only [List.cons.injEq, Value.int.injEq, true_and, and_true] at h2
  exact Pt.ext (ns_inj h1.1) h2.1 h2.2
theorem eqB_pc {a b : Pt} (ha : a.ok) (hb : b.ok) : eqB (pc a).toArray (pc b).toArray = decide (a = b) := by
  unfold eqB
  by_cases h : a = b
  · rw [decide_eq_true h]
    exact @decide_eq_true _ (Classical.propDecidable _) (congrArg (fun p => (pc p).toArray) h)
  · rw [decide_eq_false h]
    exact @decide_eq_false _ (Classical.propDecidable _) (fun e => h (pc_inj ha hb e))
def okPts (cs ds : Array Value) : Prop := ∃ a b : Pt, a.ok ∧ b.ok ∧ cs = (pc a).toArray ∧ ds = (pc b).toArray
def eq_point (x y : Value) : Sem Value := binOp .eql 27 x y
theorem eq_point_eq (x y : Value) : binOp .eql 27 x y = eq_point x y := rfl
theorem eq_point_run (w : World) (cs ds : Array Value) (h : okPts cs ds) : (eq_point (.agg cs) (.agg ds)).run Try.prog w = .ok (.bool (eqB cs ds)) w := by
  obtain ⟨a, b, ha, hb, rfl, rfl⟩ := h
  rw [eqB_pc ha hb]
  exact eq_pt w a b ha hb
def ne_point (x y : Value) : Sem Value := binOp .neq 27 x y
theorem ne_point_eq (x y : Value) : binOp .neq 27 x y = ne_point x y := rfl
theorem ne_point_run (w : World) (cs ds : Array Value) (h : okPts cs ds) : (ne_point (.agg cs) (.agg ds)).run Try.prog w = .ok (.bool (!eqB cs ds)) w := by
  obtain ⟨a, b, ha, hb, rfl, rfl⟩ := h
  rw [eqB_pc ha hb]
  exact ne_pt w a b ha hb
attribute [local go_sem ↓] eq_point_eq ne_point_eq
attribute [local go_sem] eq_point_run ne_point_run guard_pt

/-- three points in their boxes -/
abbrev St3 (w : World) (a b c : Pt) (w' : World) : Prop := Below w.heap.size w w' ∧ w'.heap[w.heap.size]? = some (.cells (pc a).toArray 27 (0, 0)) ∧ w'.heap[w.heap.size + 1]? = some (.cells (pc b).toArray 27 (0, 0)) ∧ w'.heap[w.heap.size + 1 + 1]? = some (.cells (pc c).toArray 27 (0, 0)) ∧
  (hasAt w' w.heap.size 0 34 ∧ cellsAt w' w.heap.size 0 34 = (pc a).toArray) ∧ (hasAt w' (w.heap.size + 1) 0 34 ∧ cellsAt w' (w.heap.size + 1) 0 34 = (pc b).toArray) ∧ (hasAt w' (w.heap.size + 1 + 1) 0 34 ∧ cellsAt w' (w.heap.size + 1 + 1) 0 34 = (pc c).toArray)
theorem row_has {w : World} {p : Pt} (hp : p.ok) {g : Nat} {t : TypeId} (hg : w.heap[g]? = some (.cells (pc p).toArray t (0, 0))) : hasAt w g 0 34 ∧ cellsAt w g 0 34 = (pc p).toArray := by
  have hr : w.rangeAt g 0 (pc p) := by
    intro j v hv
    rw [Nat.zero_add, (row_cells hg j).1]
    simpa using hv
  exact ⟨hasAt_of hr (pc_length hp), cellsAt_of hr (pc_length hp)⟩
section
variable {w w' w2 : World} {a b c : Pt}
theorem St3.of (ha : a.ok) (hb : b.ok) (hc : c.ok) (h : Below w.heap.size w w') (h0 : w'.heap[w.heap.size]? = some (.cells (pc a).toArray 27 (0, 0))) (h1 : w'.heap[w.heap.size + 1]? = some (.cells (pc b).toArray 27 (0, 0))) (h2 : w'.heap[w.heap.size + 1 + 1]? = some (.cells (pc c).toArray 27 (0, 0))) : St3 w a b c w' :=
  ⟨h, h0, h1, h2, row_has ha h0, row_has hb h1, row_has hc h2⟩
theorem St3.below (ha : a.ok) (hb : b.ok) (hc : c.ok) (h : St3 w a b c w') (hbl : Below w'.heap.size w' w2) : St3 w a b c w2 :=
  St3.of ha hb hc (bThen h.1 hbl) ((hbl.block _ (Array.getElem?_eq_some_iff.1 h.2.1).1).trans h.2.1) ((hbl.block _ (Array.getElem?_eq_some_iff.1 h.2.2.1).1).trans h.2.2.1) ((hbl.block _ (Array.getElem?_eq_some_iff.1 h.2.2.2.1).1).trans h.2.2.2.1)
theorem St3.drew (ha : a.ok) (hb : b.ok) (hc : c.ok) (h : St3 w a b c w') : St3 w a b c w'.drew := St3.of ha hb hc h.1.drew h.2.1 h.2.2.1 h.2.2.2.1
end
theorem three_box (w : World) (x y z : Obj) : (((w.alloc x).alloc y).alloc z).heap[w.heap.size]? = some x ∧ (((w.alloc x).alloc y).alloc z).heap[w.heap.size + 1]? = some y ∧ (((w.alloc x).alloc y).alloc z).heap[w.heap.size + 1 + 1]? = some z := by
  obtain ⟨h0, h1⟩ := two_box w x y
  refine ⟨(Below.heap_alloc _ _ _ (by simp; omega)).trans h0, (Below.heap_alloc _ _ _ (by simp)).trans h1, ?_⟩
  have h := heap_alloc_new ((w.alloc x).alloc y) z
  have e : ((w.alloc x).alloc y).heap.size = w.heap.size + 1 + 1 := by simp
  rw [e] at h
  exact h

set_option maxRecDepth 10000 in
set_option maxHeartbeats 2000000 in
theorem coinOrders_walk (a b c : Pt) (w : World) (ha : a.ok) (hb : b.ok) (hc : c.ok) :
    Calls Try.prog 8 #[.agg (pc a).toArray, .agg (pc b).toArray, .agg (pc c).toArray] w fun e w' => e = .returned (.bool true) ∧ Below w.heap.size w w' := by
  obtain ⟨h0, h1, h2⟩ := three_box w (.cells (pc a).toArray 27) (.cells (pc b).toArray 27) (.cells (pc c).toArray 27)
  have hS0 : St3 w a b c (((w.alloc (.cells (pc a).toArray 27)).alloc (.cells (pc b).toArray 27)).alloc (.cells (pc c).toArray 27)) :=
    St3.of ha hb hc (belA (belA ((Below.refl _ _).alloc (Nat.le_refl _) _) _ (Nat.le_refl _)) _ (Nat.le_refl _)) h0 h1 h2
  have hS1 := hS0.drew ha hb hc
  have hok : okPts (pc a).toArray (pc b).toArray := ⟨a, b, ha, hb, rfl, rfl⟩
  have he := eqB_pc ha hb
  clear h0 h1 h2 hS0
  obtain ⟨x, hx⟩ : ∃ x, lessF a b = x := ⟨_, rfl⟩
  obtain ⟨y, hy⟩ : ∃ y, lessF b a = y := ⟨_, rfl⟩
  obtain ⟨z, hz⟩ : ∃ z, lessF b c = z := ⟨_, rfl⟩
  obtain ⟨u, hu⟩ : ∃ u, lessF a c = u := ⟨_, rfl⟩
  have L := Lib.hid (And.intro hx (And.intro hy (And.intro hz hu)))
  by_cases hab : a = b
  · rw [decide_eq_true hab] at he
    have e1 : x = false := by rw [← hx, hab]; exact lessF_self b
    have e2 : y = false := by rw [← hy, hab]; exact lessF_self b
    subst e1 e2
    clear hab
    clear hx hy hz hu
    go_enter Try.func8, Try.ntmps8
    go_wp2_with (fail)
    go_region_held3 (fun w' => St3 w a b c w') (first | exact hS3 | exact hS2 | exact hS1)
      (first
        | (go_at_call 30; (with_reducible refine (less_is ha hb L.out.1).mono ?_); rintro e w2 ⟨rfl, hb2⟩; have hS2 := hS1.below ha hb hc hb2)
        | (go_at_call 30; (with_reducible refine (less_is hb ha L.out.2.1).mono ?_); rintro e w3 ⟨rfl, hb3⟩; have hS3 := hS2.below ha hb hc hb3))
    rename_i hHeldX
    clear hHeldX hb2 hb3 hS1 hS2
    go_wp2_with (fail)
    refine (rless_is ha hb L.out.1).mono ?_
    rintro e w8 ⟨rfl, hb8⟩
    have hS8 := hS3.below ha hb hc hb8
    clear hb8 hS3
    go_wp2_with (fail)
    refine (works06_any _).mono ?_
    rintro e w9 ⟨rfl, hb9⟩
    have hbl := bThen hS8.1 hb9
    clear hb9
    go_wp2_with (fail)
    go_ret
    exact ⟨rfl, hbl⟩
  · rw [decide_eq_false hab] at he
    have hxy := lessF_total ha hb hab
    rw [hx, hy] at hxy
    cases x with
    | true =>
      have e2 : y = false := by
        cases y with
        | false => rfl
        | true => exact absurd hxy (by decide)
      subst e2
      cases z with
      | true =>
        have e3 : u = true := by rw [← hu]; exact lessF_trans hx hz
        subst e3
        clear hab hxy
        clear hx hy hz hu
        go_enter Try.func8, Try.ntmps8
        go_wp2_with (fail)
        go_region_held3 (fun w' => St3 w a b c w') (first | exact hS3 | exact hS2 | exact hS1)
          (first
            | (go_at_call 30; (with_reducible refine (less_is ha hb L.out.1).mono ?_); rintro e w2 ⟨rfl, hb2⟩; have hS2 := hS1.below ha hb hc hb2)
            | (go_at_call 30; (with_reducible refine (less_is hb ha L.out.2.1).mono ?_); rintro e w3 ⟨rfl, hb3⟩; have hS3 := hS2.below ha hb hc hb3))
        rename_i hHeldX
        clear hHeldX hb2 hb3 hS1 hS2
        go_wp2_with (fail)
        refine (less_is hb hc L.out.2.2.1).mono ?_
        rintro e w4 ⟨rfl, hb4⟩
        have hS4 := hS3.below ha hb hc hb4
        clear hb4 hS3
        go_wp2_with (fail)
        refine (less_is ha hc L.out.2.2.2).mono ?_
        rintro e w5 ⟨rfl, hb5⟩
        have hS5 := hS4.below ha hb hc hb5
        clear hb5 hS4
        go_wp2_with (fail)
        refine (rless_is ha hb L.out.1).mono ?_
        rintro e w8 ⟨rfl, hb8⟩
        have hS8 := hS5.below ha hb hc hb8
        clear hb8 hS5
        go_wp2_with (fail)
        refine (works06_any _).mono ?_
        rintro e w9 ⟨rfl, hb9⟩
        have hbl := bThen hS8.1 hb9
        clear hb9
        go_wp2_with (fail)
        go_ret
        exact ⟨rfl, hbl⟩
      | false =>
        clear hab hxy
        clear hx hy hz hu
        go_enter Try.func8, Try.ntmps8
        go_wp2_with (fail)
        go_region_held3 (fun w' => St3 w a b c w') (first | exact hS3 | exact hS2 | exact hS1)
          (first
            | (go_at_call 30; (with_reducible refine (less_is ha hb L.out.1).mono ?_); rintro e w2 ⟨rfl, hb2⟩; have hS2 := hS1.below ha hb hc hb2)
            | (go_at_call 30; (with_reducible refine (less_is hb ha L.out.2.1).mono ?_); rintro e w3 ⟨rfl, hb3⟩; have hS3 := hS2.below ha hb hc hb3))
        rename_i hHeldX
        clear hHeldX hb2 hb3 hS1 hS2
        go_wp2_with (fail)
        refine (less_is hb hc L.out.2.2.1).mono ?_
        rintro e w4 ⟨rfl, hb4⟩
        have hS4 := hS3.below ha hb hc hb4
        clear hb4 hS3
        go_wp2_with (fail)
        refine (rless_is ha hb L.out.1).mono ?_
        rintro e w8 ⟨rfl, hb8⟩
        have hS8 := hS4.below ha hb hc hb8
        clear hb8 hS4
        go_wp2_with (fail)
        refine (works06_any _).mono ?_
        rintro e w9 ⟨rfl, hb9⟩
        have hbl := bThen hS8.1 hb9
        clear hb9
        go_wp2_with (fail)
        go_ret
        exact ⟨rfl, hbl⟩
    | false =>
      have e2 : y = true := by
        cases y with
        | true => rfl
        | false => exact absurd hxy (by decide)
      subst e2
      clear hab hxy
      clear hx hy hz hu
      go_enter Try.func8, Try.ntmps8
      go_wp2_with (fail)
      go_region_held3 (fun w' => St3 w a b c w') (first | exact hS3 | exact hS2 | exact hS1)
        (first
          | (go_at_call 30; (with_reducible refine (less_is ha hb L.out.1).mono ?_); rintro e w2 ⟨rfl, hb2⟩; have hS2 := hS1.below ha hb hc hb2)
          | (go_at_call 30; (with_reducible refine (less_is hb ha L.out.2.1).mono ?_); rintro e w3 ⟨rfl, hb3⟩; have hS3 := hS2.below ha hb hc hb3))
      rename_i hHeldX
      clear hHeldX hb2 hb3 hS1 hS2
      go_wp2_with (fail)
      refine (rless_is ha hb L.out.1).mono ?_
      rintro e w8 ⟨rfl, hb8⟩
      have hS8 := hS3.below ha hb hc hb8
      clear hb8 hS3
      go_wp2_with (fail)
      refine (works06_any _).mono ?_
      rintro e w9 ⟨rfl, hb9⟩
      have hbl := bThen hS8.1 hb9
      clear hb9
      go_wp2_with (fail)
      go_ret
      exact ⟨rfl, hbl⟩
end Go.Proofs.Ytejablcdpakgoaa
