/- Arguments opened to what the contracts are told: bytes; fields of structs; elements of slices; each with its size. -/
import Derived.Test.YtejablcdpakgoaaEndsB
import Derived.SizedLaws
import Derived.Deep.Slices
import Derived.OpenShut
import Derived.ChangeArms
namespace Go.Proofs.Ytejablcdpakgoaa
open Go.RowKit Go.Proofs En
set_option linter.unusedVariables false
set_option linter.unusedSimpArgs false

section
variable {H : Type} {P : Program}
/-- all that it weighs is within the reach -/
def Small (P : Program) (t : TypeId) (d : DataW H) : Prop := ∀ n ∈ d.weights P t, n ≤ reachBytes
theorem Small.of_all {ts : List TypeId} {ds : List (DataW H)} (h : (DataW.weightsEach P ts ds).all (· ≤ reachBytes) = true) {j : Nat} {t : TypeId} {d : DataW H} (ht : ts[j]? = some t) (hd : ds[j]? = some d) : Small P t d := by
  intro n hn
  have := List.all_eq_true.1 h _ (DataW.weights_mem_each ht hd n hn)
  simpa using this
theorem weightsAll_mem {e : TypeId} {ds : List (DataW H)} {d : DataW H} (hd : d ∈ ds) {n : Nat} (hn : n ∈ d.weights P e) : n ∈ DataW.weightsAll P e ds := by
  induction ds with
  | nil => cases hd
  | cons x ds ih =>
    rw [DataW.weightsAll, List.mem_append]
    rcases List.mem_cons.1 hd with rfl | hd
    · exact .inl hn
    · exact .inr (ih hd)
theorem Small.elem {t e : TypeId} {el sp : List (DataW H)} (hu : P.underlying t = some (.slice e)) (h : Small P t (.slice el sp)) : (el.length + sp.length) * P.bytesOf e ≤ reachBytes ∧ ∀ d ∈ el, Small P e d := by
  unfold Small at *
  simp only [DataW.weights, hu] at h
  exact ⟨h _ (List.mem_cons_self ..), fun d hd n hn => h n (List.mem_cons_of_mem _ (List.mem_append_left _ (weightsAll_mem hd hn)))⟩
theorem Small.part {t : TypeId} {fs : Array Field} {ps : List (DataW H)} (hu : P.underlying t = some (.struct fs)) (h : Small P t (.agg ps)) {i : Nat} {f : Field} {d : DataW H} (hf : fs[i]? = some f) (hd : ps[i]? = some d) : Small P f.type d := by
  unfold Small at *
  simp only [DataW.weights, hu] at h
  exact fun n hn => h n (DataW.weights_mem_each (j := i) (by rw [List.getElem?_map]; rw [show fs.toList[i]? = some f from by simpa using hf]; rfl) hd n hn)

variable {enc : TypeId × Value → H} {w : World} {fuel : Nat} {cs : List Value} {x : DataW H × List MemPlace}
/-- a field -/
theorem open_field {t : TypeId} {fs : Array Field} (ht : P.underlying t = some (.struct fs)) (h : DataW.trod enc P w 0 (fun _ => true) true fuel t cs = some x) (hS : Small P t x.1) {i : Nat} {f : Field} (hf : fs[i]? = some f) :
    ∃ y n, DataW.trod enc P w 0 (fun _ => true) true n f.type ((cs.drop f.offset).take (P.cellsOf f.type)) = some y ∧ Small P f.type y.1 := by
  obtain ⟨xs, n, _, hx, _, hlen, hg⟩ := DataW.trod_struct ht h
  have h1 := hg i f hf
  have hi : i < xs.length := by rw [hlen]; exact (Array.getElem?_eq_some_iff.1 hf).1
  rw [List.getElem?_eq_getElem hi] at h1
  rw [hx] at hS
  exact ⟨_, n, h1, hS.part ht hf (by rw [List.getElem?_map, List.getElem?_eq_getElem hi]; rfl)⟩
/-- an element of an array -/
theorem open_at {t e : TypeId} {m : Nat} (ht : P.underlying t = some (.array m e)) (h : DataW.trod enc P w 0 (fun _ => true) true fuel t cs = some x) {i : Nat} (hi : i < m) :
    ∃ y n, DataW.trod enc P w 0 (fun _ => true) true n e ((cs.drop (i * P.cellsOf e)).take (P.cellsOf e)) = some y := by
  obtain ⟨xs, n, _, hx, _, hlen, hg⟩ := DataW.trod_array ht h
  have h1 := hg i hi
  rw [List.getElem?_eq_getElem (by omega)] at h1
  exact ⟨_, n, h1⟩
/-- the elements of a slice -/
theorem open_elems {t e : TypeId} (ht : P.underlying t = some (.slice e)) {v : Value} (h : DataW.trod enc P w 0 (fun _ => true) true fuel t [v] = some x) (hS : Small P t x.1) :
    v = .slice none 0 0 ∨ ∃ (a : Addr) (len cap : Nat), v = .slice (some a) len cap ∧ len ≤ cap ∧ cap ≤ maxLen ∧ cap * P.bytesOf e ≤ reachBytes ∧
      ∀ i, i < len → ∃ cs' y n, cs'.length = P.cellsOf e ∧ (∀ j, j < P.cellsOf e → w.cell? ((a.add (i * P.cellsOf e)).add j) = cs'[j]?) ∧ DataW.trod enc P w 0 (fun _ => true) true n e cs' = some y ∧ Small P e y.1 := by
  rcases Go.Deep.open_slice ht h with ⟨h0, _⟩ | ⟨a, len, cap, m, n, D, Pl, hcs, hb, hl, hm, hmm, hx, hi⟩
  · exact .inl (List.cons.inj h0).1
  · simp only [if_true] at hmm
    subst hmm
    rw [hx] at hS
    obtain ⟨h1, h2⟩ := hS.elem ht
    simp only [List.length_map, List.length_range] at h1
    refine .inr ⟨a, len, m, (List.cons.inj hcs).1, hl, hm, by rwa [show len + (m - len) = m from by omega] at h1, fun i hlt => ?_⟩
    obtain ⟨cs', hc, htr⟩ := hi i (by omega)
    obtain ⟨_, hcl, hat⟩ := World.cells?_some hc
    exact ⟨cs', _, n, hcl, hat, htr, h2 _ (List.mem_map.2 ⟨i, List.mem_range.2 hlt, rfl⟩)⟩

/-- bytes -/
theorem open_bytes {t e : TypeId} (ht : P.underlying t = some (.slice e)) (he : P.underlying e = some (.int .u8)) (hc : P.cellsOf e = 1) (hb : P.bytesOf e = 1) {v : Value}
    (h : DataW.trod enc P w 0 (fun _ => true) true fuel t [v] = some x) (hS : Small P t x.1) : ∃ A n c b, v = .slice A n c ∧ Arg w A n c b ∧ c ≤ 140737488351232 := by
  rcases open_elems ht h hS with rfl | ⟨a, len, cap, rfl, hl, hm, hr, hi⟩
  · exact ⟨none, 0, 0, [], rfl, ⟨RdN.nil _ _ _, IsB.nil, Nat.le_refl _, Nat.zero_le _, Nat.zero_le _⟩, Nat.zero_le _⟩
  · rw [hb, Nat.mul_one] at hr
    unfold reachBytes at hr
    have hx : ∀ i, i < len → ∃ z : Int, w.cell? (a.add i) = some (.int .u8 z) ∧ 0 ≤ z ∧ z ≤ 255 := by
      intro i hlt
      obtain ⟨cs', y, n, h1, h2, h3, h4⟩ := hi i hlt
      obtain ⟨z, rfl, _, hwf⟩ := DataW.trod_int he h3
      rw [hc] at h2
      have h5 := h2 0 (by omega)
      rw [Nat.mul_one, add_add, Nat.add_zero] at h5
      refine ⟨z, h5, ?_⟩
      have := hwf
      simp [Lit.wf, IntKind.min, IntKind.max, IntKind.signed, IntKind.bits] at this
      omega
    have hf : ∃ f : Nat → Int, ∀ i, i < len → w.cell? (a.add i) = some (.int .u8 (f i)) ∧ 0 ≤ f i ∧ f i ≤ 255 := by
      refine ⟨fun i => if h : i < len then Classical.choose (hx i h) else 0, fun i h => ?_⟩
      simp only [h, dif_pos]
      exact Classical.choose_spec (hx i h)
    obtain ⟨f, hf⟩ := hf
    refine ⟨some a, len, cap, (List.range len).map f, rfl, ⟨⟨by simp [ns_length], fun hn => ⟨a, rfl, ?_, ?_⟩⟩, ?_, hl, hm, by omega⟩, by omega⟩
    · have h0 := (hf 0 hn).1
      have := World.block_lt_of_cell? _ _ h0
      rwa [block_add] at this
    · intro j u hu
      unfold ns at hu
      rw [List.getElem?_map, List.getElem?_map] at hu
      by_cases hj : j < len
      · rw [List.getElem?_range hj] at hu
        simp only [Option.map_some, Option.some.injEq] at hu
        rw [← hu]
        exact (hf j hj).1
      · rw [List.getElem?_eq_none (by simp; omega)] at hu
        cases hu
    · intro z hz
      obtain ⟨i, hi2, rfl⟩ := List.mem_map.1 hz
      exact (hf i (List.mem_range.1 hi2)).2
end
end Go.Proofs.Ytejablcdpakgoaa
