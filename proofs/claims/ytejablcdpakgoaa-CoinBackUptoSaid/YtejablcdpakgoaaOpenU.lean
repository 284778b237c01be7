/- Arguments of a statement's second form, opened: what its bound gives. -/
import Derived.Test.YtejablcdpakgoaaOpenB
import Derived.Test.YtejablcdpakgoaaBulk
namespace Go.Proofs.Ytejablcdpakgoaa
open Go.RowKit Go.Proofs En Go.ChangeShapes Go.WideShapes Go.Joins
set_option linter.unusedVariables false
set_option linter.unusedSimpArgs false

/-- the program's own types are made of its own types, none of them great -/
noncomputable def ownType (t : TypeId) : Bool := decide (t < Try.prog.types.size) && decide (Try.prog.bytesOf t ≤ 4096)
noncomputable def ownTypes (t : TypeId) : Bool :=
  match Try.prog.underlying t with
  | some (.slice e) => ownType e
  | some (.pointer e) => ownType e
  | some (.struct fs) => fs.toList.all fun f => ownType f.type
  | some (.array _ e) => ownType e
  | some (.map k e) => ownType k && ownType e
  | _ => true
theorem own_types {t : TypeId} (h : t < Try.prog.types.size) : ownTypes t = true := by
  have h0 : (List.range Try.prog.types.size).all ownTypes = true := by kernel_rfl
  exact List.all_eq_true.1 h0 t (List.mem_range.2 h)
theorem ownType_iff {t : TypeId} (h : ownType t = true) : t < Try.prog.types.size ∧ Try.prog.bytesOf t ≤ 4096 := by
  unfold ownType at h
  simpa using h
section
variable {H : Type}
mutual
theorem weight_bulk : (d : DataW H) → (t : TypeId) → t < Try.prog.types.size → ∀ n ∈ d.weights Try.prog t, n ≤ 8192 * Rows.uptoBulk d
  | .lit l, t => by
    intro ht n hn
    have hO := own_types ht
    unfold ownTypes at hO
    cases l with
    | string b => simp only [DataW.weights, List.mem_singleton] at hn; subst hn; simp only [Rows.uptoBulk]; omega
    | _ => simp [DataW.weights] at hn
  | .nil, t => by intro ht n hn; simp [DataW.weights] at hn
  | .ptr d, t => by
    intro ht n hn
    have hO := own_types ht
    unfold ownTypes at hO
    simp only [DataW.weights] at hn
    split at hn
    · rename_i e he
      rw [he] at hO
      have := weight_bulk d _ (ownType_iff hO).1 n hn; simp only [Rows.uptoBulk]; omega
    · cases hn
  | .slice el sp, t => by
    intro ht n hn
    have hO := own_types ht
    unfold ownTypes at hO
    simp only [DataW.weights] at hn
    simp only [Rows.uptoBulk]
    split at hn
    · rename_i e he
      rw [he] at hO
      rcases List.mem_cons.1 hn with rfl | hn
      · have h1 := bulk_len el
        have h2 := bulk_len sp
        have h3 := (ownType_iff hO).2
        have h4 : (el.length + sp.length) * Try.prog.bytesOf e ≤ (Rows.uptoBulkAll el + Rows.uptoBulkAll sp) * 4096 := Nat.mul_le_mul (by omega) h3
        omega
      · rcases List.mem_append.1 hn with hn | hn
        · have := weight_bulkAll el e (ownType_iff hO).1 n hn; omega
        · have := weight_bulkAll sp e (ownType_iff hO).1 n hn; omega
    · cases hn
  | .agg ps, t => by
    intro ht n hn
    have hO := own_types ht
    unfold ownTypes at hO
    simp only [DataW.weights] at hn
    simp only [Rows.uptoBulk]
    split at hn
    · rename_i fs he
      rw [he] at hO
      have := weight_bulkEach _ ps (fun t h => by
        obtain ⟨f, hf, rfl⟩ := List.mem_map.1 h
        exact (ownType_iff (List.all_eq_true.1 hO f hf)).1) n hn; omega
    · rename_i m e he
      rw [he] at hO
      have := weight_bulkAll ps _ (ownType_iff hO).1 n hn; omega
    · cases hn
  | .iface _ _, t => by intro ht n hn; simp [DataW.weights] at hn
  | .map es, t => by
    intro ht n hn
    have hO := own_types ht
    unfold ownTypes at hO
    simp only [DataW.weights] at hn
    simp only [Rows.uptoBulk]
    split at hn
    · rename_i k e he
      rw [he] at hO
      obtain ⟨hk, hO⟩ := Bool.and_eq_true_iff.1 hO
      rcases List.mem_cons.1 hn with rfl | hn
      · have h1 := bulk_lenE es
        have h3 := (ownType_iff hO).2
        have h4 := (ownType_iff hk).2
        have h5 : es.length * (Try.prog.bytesOf k + Try.prog.bytesOf e) ≤ Rows.uptoBulkEntries es * 8192 := Nat.mul_le_mul h1 (by omega)
        omega
      · have := weight_bulkEntries es e (ownType_iff hO).1 n hn; omega
    · cases hn
  | .held _, t => by intro ht n hn; simp [DataW.weights] at hn
theorem weight_bulkAll : (l : List (DataW H)) → (e : TypeId) → e < Try.prog.types.size → ∀ n ∈ DataW.weightsAll Try.prog e l, n ≤ 8192 * Rows.uptoBulkAll l
  | [], e => by intro ht n hn; simp [DataW.weightsAll] at hn
  | d :: r, e => by
    intro ht n hn
    simp only [DataW.weightsAll] at hn
    simp only [Rows.uptoBulkAll]
    rcases List.mem_append.1 hn with hn | hn
    · have := weight_bulk d e ht n hn; omega
    · have := weight_bulkAll r e ht n hn; omega
theorem weight_bulkEach : (ts : List TypeId) → (l : List (DataW H)) → (∀ t ∈ ts, t < Try.prog.types.size) → ∀ n ∈ DataW.weightsEach Try.prog ts l, n ≤ 8192 * Rows.uptoBulkAll l
  | [], l => by intro ht n hn; simp [DataW.weightsEach] at hn
  | _ :: _, [] => by intro ht n hn; simp [DataW.weightsEach] at hn
  | t :: ts, d :: r => by
    intro ht n hn
    simp only [DataW.weightsEach] at hn
    simp only [Rows.uptoBulkAll]
    rcases List.mem_append.1 hn with hn | hn
    · have := weight_bulk d t (ht t (List.mem_cons_self ..)) n hn; omega
    · have := weight_bulkEach ts r (fun t h => ht t (List.mem_cons_of_mem _ h)) n hn; omega
theorem weight_bulkEntries : (l : List (Lit × DataW H)) → (e : TypeId) → e < Try.prog.types.size → ∀ n ∈ DataW.weightsEntries Try.prog e l, n ≤ 8192 * Rows.uptoBulkEntries l
  | [], e => by intro ht n hn; simp [DataW.weightsEntries] at hn
  | x :: r, e => by
    intro ht n hn
    simp only [DataW.weightsEntries] at hn
    simp only [Rows.uptoBulkEntries]
    rcases List.mem_append.1 hn with hn | hn
    · have := weight_bulkEntry x e ht n hn; omega
    · have := weight_bulkEntries r e ht n hn; omega
theorem weight_bulkEntry : (x : Lit × DataW H) → (e : TypeId) → e < Try.prog.types.size → ∀ n ∈ DataW.weightsEntry Try.prog e x, n ≤ 8192 * Rows.uptoBulkEntry x
  | (l, d), e => by
    intro ht n hn
    cases l with
    | string b =>
      simp only [DataW.weightsEntry] at hn
      simp only [Rows.uptoBulkEntry]
      rcases List.mem_cons.1 hn with rfl | hn
      · omega
      · have := weight_bulk d e ht n hn; omega
    | _ =>
      simp only [DataW.weightsEntry] at hn
      simp only [Rows.uptoBulkEntry]
      have := weight_bulk d e ht n hn; omega
end
theorem Small.of_bulk {d : DataW H} (t : TypeId) (ht : t < Try.prog.types.size) (h : Rows.uptoBulk d ≤ 1048576) : Small Try.prog t d := by
  intro n hn
  have := weight_bulk d t ht n hn
  unfold reachBytes
  omega
theorem bulk_of {ds : List (DataW H)} (hk : Rows.uptoSmall H ds = true) {j : Nat} {d : DataW H} (hd : ds[j]? = some d) : Rows.uptoBulk d ≤ 1048576 := by
  have h1 : Rows.uptoBulkAll ds ≤ 1048576 := of_decide_eq_true hk
  have h2 := bulk_at hd
  omega
variable {enc : TypeId × Value → H} {W : World} {base : Nat} {v : Value} {d : DataW H} {ps : List MemPlace}
theorem arg_bytesU (hval : Value.okWide Try.prog W .any base 29 v) (h : DataW.Trod enc Try.prog W 0 (fun _ => true) true 29 v d ps) (hs : Rows.uptoBulk d ≤ 1048576) :
    ∃ A n c b, v = .slice A n c ∧ (Arg W A n c b ∧ c ≤ 1048576) := by
  obtain ⟨A, n, c, b, rfl, ha, _⟩ := arg_bytes hval h (Small.of_bulk _ (of_decide_eq_true (by kernel_rfl)) hs)
  obtain ⟨fuel, hf⟩ := h
  rcases open_ints Try.underlying29 Try.underlying5 (by kernel_rfl) hf with ⟨hcs, _⟩ | ⟨x, l, c', zs, hcs, _, hl, hm, hz, hx, hcell, hwz⟩
  · simp [Value.cells] at hcs
    obtain ⟨rfl, rfl, rfl⟩ := hcs
    exact ⟨_, _, _, b, rfl, ha, by omega⟩
  · simp [Value.cells] at hcs
    obtain ⟨rfl, rfl, rfl⟩ := hcs
    obtain ⟨e1, e2⟩ := Prod.mk.inj hx
    subst e1
    have hz' : zs.length = c := by simpa using hz
    simp only [Rows.uptoBulk] at hs
    have h1 := bulk_len (H := H) (lits .u8 (zs.take n))
    have h2 := bulk_len (H := H) (lits .u8 (zs.drop n))
    simp only [lits, List.length_map, List.length_take, List.length_drop] at h1 h2
    refine ⟨_, _, _, b, rfl, ha, ?_⟩
    simp only [lits] at hs
    omega
end
end Go.Proofs.Ytejablcdpakgoaa
