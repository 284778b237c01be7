/- Arguments that are scripts, opened. -/
import Derived.Test.YtpbnodomopdjhaaOpenB
import Derived.Test.YtpbnodomopdjhaaCodeK
namespace Go.Proofs.Ytpbnodomopdjhaa
open Go.RowKit Go.Proofs En Cd Go.ChangeShapes Go.WideShapes Go.Joins
set_option linter.unusedVariables false
set_option linter.unusedSimpArgs false

section
variable {H : Type} {enc : TypeId × Value → H} {W : World} {base : Nat} {v : Value} {d : DataW H} {ps : List MemPlace}
theorem cells_step : Try.prog.cellsOf 55 = 2 := by kernel_rfl
theorem bytes_step : Try.prog.bytesOf 55 = 32 := by kernel_rfl
theorem cells_op : Try.prog.cellsOf 5 = 1 := by kernel_rfl
theorem cells_push : Try.prog.cellsOf 23 = 1 := by kernel_rfl
theorem bytes_u8 : Try.prog.bytesOf 5 = 1 := by kernel_rfl
/-- one step's cells -/
theorem open_step {fuel : Nat} {cs : List Value} {y : DataW H × List MemPlace} (hl : cs.length = 2) (h : DataW.trod enc Try.prog W 0 (fun _ => true) true fuel 55 cs = some y) (hs : Small Try.prog 55 y.1) :
    ∃ x : Hd, cs = x.cells ∧ x.ok W := by
  obtain ⟨y0, n0, h0, s0⟩ := open_field Try.underlying55 h hs (i := 0) rfl
  obtain ⟨y1, n1, h1, s1⟩ := open_field Try.underlying55 h hs (i := 1) rfl
  match cs, hl with
  | [c0, c1], _ =>
    replace h0 : DataW.trod enc Try.prog W 0 (fun _ => true) true n0 5 (([c0, c1].drop 0).take (Try.prog.cellsOf 5)) = some y0 := h0
    replace h1 : DataW.trod enc Try.prog W 0 (fun _ => true) true n1 23 (([c0, c1].drop 1).take (Try.prog.cellsOf 23)) = some y1 := h1
    replace s1 : Small Try.prog 23 y1.1 := s1
    rw [cells_op] at h0
    rw [cells_push] at h1
    simp only [List.drop_zero, List.take_succ_cons, List.take_zero, List.drop_succ_cons] at h0 h1
    obtain ⟨n, hc0, _, hwf⟩ := DataW.trod_int Try.underlying5 h0
    obtain ⟨A, m, c, b, rfl, ha, _⟩ := open_bytes Try.underlying23 Try.underlying5 cells_op bytes_u8 h1 s1
    have e0 := (List.cons.inj hc0).1
    subst e0
    exact ⟨⟨n, A, m, c, b⟩, rfl, bd8 hwf, ha⟩
theorem arg_steps (hval : Value.okWide Try.prog W .any base 44 v) (h : DataW.Trod enc Try.prog W 0 (fun _ => true) true 44 v d ps) (hs : Small Try.prog 44 d) :
    ∃ B m c hs, v = .slice B m c ∧ ArgS W B m c hs := by
  obtain ⟨A, n, c, rfl⟩ := okWide_slice Try.underlying44 hval
  obtain ⟨fuel, hf⟩ := h
  rcases open_elems Try.underlying44 hf hs with he | ⟨a, len, cap, he, hl, hm, hr, hi⟩
  · injection he with e1 e2 e3
    subst e1 e2 e3
    exact ⟨none, 0, 0, [], rfl, ⟨Rd.nil _ _ _, (fun _ h => by cases h), Nat.le_refl _, Nat.zero_le _, Nat.zero_le _⟩⟩
  · injection he with e1 e2 e3
    subst e1 e2 e3
    rw [bytes_step] at hr
    unfold reachBytes at hr
    rw [cells_step] at hi
    have hx : ∀ i, i < n → ∃ x : Hd, (∀ j, j < 2 → W.cell? ((a.add (i * 2)).add j) = x.cells[j]?) ∧ x.ok W := by
      intro i hlt
      obtain ⟨cs', y, q, h1, h2, h3, h4⟩ := hi i hlt
      obtain ⟨x, rfl, hx⟩ := open_step h1 h3 h4
      exact ⟨x, h2, hx⟩
    have hf : ∃ f : Nat → Hd, ∀ i, i < n → (∀ j, j < 2 → W.cell? ((a.add (i * 2)).add j) = (f i).cells[j]?) ∧ (f i).ok W := by
      refine ⟨fun i => if h : i < n then Classical.choose (hx i h) else ⟨0, none, 0, 0, []⟩, fun i h => ?_⟩
      simp only [h, dif_pos]
      exact Classical.choose_spec (hx i h)
    obtain ⟨f, hf⟩ := hf
    have hget : ∀ i, i < n → ((List.range n).map f)[i]? = some (f i) := fun i h => by rw [List.getElem?_map, List.getElem?_range h]; rfl
    refine ⟨some a, n, c, (List.range n).map f, rfl, ⟨by simp [hcells_length], fun hn => ⟨a, rfl, ?_, ?_⟩⟩, ?_, hl, hm, by omega⟩
    · have h0 := (hf 0 hn).1 0 (by omega)
      have h1 : (f 0).cells[0]? = some (.int .u8 (f 0).op) := rfl
      rw [h1] at h0
      have := World.block_lt_of_cell? _ _ h0
      rwa [block_add, block_add] at this
    · intro j u hu
      have hj : j < n * 2 := by
        have := (List.getElem?_eq_some_iff.1 hu).1
        simpa [hcells_length] using this
      have hq : j / 2 < n := by omega
      obtain ⟨g0, g1⟩ := hcells_get _ (j / 2) _ (hget _ hq)
      have hc := (hf _ hq).1
      rcases (show j = j / 2 * 2 ∨ j = j / 2 * 2 + 1 by omega) with e | e
      · rw [e] at hu ⊢
        rw [g0] at hu
        have := hc 0 (by omega)
        rw [add_add, Nat.add_zero] at this
        rw [this, ← hu]; rfl
      · rw [e] at hu ⊢
        rw [g1] at hu
        have := hc 1 (by omega)
        rw [add_add] at this
        rw [this, ← hu]; rfl
    · intro x hx
      obtain ⟨i, hi2, rfl⟩ := List.mem_map.1 hx
      exact (hf i (List.mem_range.1 hi2)).2
end
end Go.Proofs.Ytpbnodomopdjhaa
