/- Joined texts: Is, Open, OpenB, Step, Cmp, Equal, Big. -/
import Derived.Test.YtofclanljhfkiaaM2
import Derived.Deep.RegionHeld3
import Derived.Test.YtofclanljhfkiaaM1
import Derived.SizedLaws
import Derived.Deep.Slices
import Derived.OpenShut
import Derived.ChangeArms
import Derived.Lib.SmallJoins
import Derived.RegionTactic
import Derived.OwnWalk
import Derived.Lib.BytesEntry
import Derived.Laws.Externs
import Derived.Laws.StructEq
import Derived.Laws.Tables
import Derived.Laws.Rows
import Derived.Deep.MidRow
/- The contracts of layer 1, each under its answer's name; small words. -/
namespace Go.Proofs.Ytofclanljhfkiaa
open Go.RowKit Go.Proofs En
set_option linter.unusedVariables false
set_option linter.unusedSimpArgs false
set_option maxRecDepth 20000

theorem put_is {n m : Int} {p : List Int} {q : Int} (w : World) (hn : 0 ≤ n ∧ n < 18446744073709551616) (h : putF n m = (p, q)) :
    Calls Try.prog 117 #[.int .u64 n, .int .i64 m] w fun e w' => ∃ A c, e = .returned (.tuple #[.slice A p.length c, .int .i64 q]) ∧ OwnB w' w.heap.size A p.length c p ∧ Below w.heap.size w w' := by
  have C := put_any n m w hn
  rw [h] at C
  exact C
theorem get_is {A : Option Addr} {n c : Nat} {b : List Int} {at_ k v q : Int} {w : World} (hb : Arg w A n c b) (ha : -9223372036854775808 ≤ at_ ∧ at_ ≤ 9223372036854775807) (hk : -9223372036854775808 ≤ k ∧ k ≤ 9223372036854775807) (h : getF b at_ k = (v, q)) :
    Calls Try.prog 99 #[.slice A n c, .int .i64 at_, .int .i64 k] w fun e w' => e = .returned (.tuple #[.int .u64 v, .int .i64 q]) ∧ Below w.heap.size w w' := by
  have C := get_any A n c b at_ k w hb ha hk
  rw [h] at C
  exact C
theorem getCount_is {A : Option Addr} {n c : Nat} {b : List Int} {at_ v x q : Int} {w : World} (hb : Arg w A n c b) (ha : -9223372036854775808 ≤ at_ ∧ at_ ≤ 9223372036854775807) (h : getCountF b at_ = (v, x, q)) :
    Calls Try.prog 75 #[.slice A n c, .int .i64 at_] w fun e w' => e = .returned (.tuple #[.int .u64 v, .int .i64 x, .int .i64 q]) ∧ Below w.heap.size w w' := by
  have C := getCount_any A n c b at_ w hb ha
  rw [h] at C
  exact C
theorem getRow_is {A : Option Addr} {n c : Nat} {b : List Int} {at_ most x q : Int} {p : List Int} {w : World} (hb : Arg w A n c b) (ha : -9223372036854775808 ≤ at_ ∧ at_ ≤ 9223372036854775807) (hm : -9223372036854775808 ≤ most ∧ most ≤ 9223372036854775807) (h : getRowF b at_ most = (p, x, q)) :
    Calls Try.prog 100 #[.slice A n c, .int .i64 at_, .int .i64 most] w fun e w' => ∃ A' c', e = .returned (.tuple #[.slice A' p.length c', .int .i64 x, .int .i64 q]) ∧ OwnB w' w.heap.size A' p.length c' p ∧ Below w.heap.size w w' := by
  have C := getRow_any A n c b at_ most w hb ha hm
  rw [h] at C
  exact C
theorem count_is {n : Int} {p : List Int} (w : World) (hn : 0 ≤ n ∧ n < 18446744073709551616) (h : countF n = p) :
    Calls Try.prog 59 #[.int .u64 n] w fun e w' => ∃ A c, e = .returned (.slice A p.length c) ∧ OwnB w' w.heap.size A p.length c p ∧ Below w.heap.size w w' := by
  have C := count_any n w hn
  rw [h] at C
  exact C
theorem same_is {A : Option Addr} {n c : Nat} {xs : List Int} {B : Option Addr} {m d : Nat} {ys : List Int} {w : World} {r : Bool} (hA : RdN w .u8 A n xs) (hB : RdN w .u8 B m ys) (hn : n ≤ 9223372036854775807) (h : decide (xs = ys) = r) :
    Calls Try.prog 21 #[.slice A n c, .slice B m d] w fun e w' => e = .returned (.bool r) ∧ Below w.heap.size w w' := by
  have C := same_any A n c xs B m d ys w hA hB hn
  rw [h] at C
  exact C
/-- bytes that a literal lays -/
theorem arg_lit (w : World) (xs : List Int) (m : Nat) (hl : m ≤ 140737488355328) (hs : xs.length = m) (hB : IsB xs) : Arg (w.alloc (.cells (ns .u8 xs).toArray 5)) (some ⟨w.heap.size, 0, none⟩) m m xs :=
  ⟨(OwnN.lit (base := 0) (e := 5) (k := .u8) w xs m (Nat.zero_le _) (by unfold maxLen; omega) hs).rd, hB, Nat.le_refl _, by unfold maxLen; omega, hl⟩
theorem rd_lit (w : World) (xs : List Int) (m : Nat) (hl : m ≤ 140737488355328) (hs : xs.length = m) : RdN (w.alloc (.cells (ns .u8 xs).toArray 5)) .u8 (some ⟨w.heap.size, 0, none⟩) m xs :=
  (OwnN.lit (base := 0) (e := 5) (k := .u8) w xs m (Nat.zero_le _) (by unfold maxLen; omega) hs).rd
theorem isB_dec {xs : List Int} (h : xs.all (fun x => decide (0 ≤ x ∧ x ≤ 255)) = true) : IsB xs := by
  intro x hx
  have := List.all_eq_true.1 h x hx
  exact of_decide_eq_true this
theorem belA {B : Nat} {a w : World} (h : Below B a w) (o : Obj) (hB : B ≤ a.heap.size) : Below B a (w.alloc o) := h.alloc (Nat.le_trans hB h.size) o


theorem rput_is {n m : Int} {p : List Int} {q : Int} (w : World) (hn : 0 ≤ n ∧ n < 18446744073709551616) (h : putF n m = (p, q)) :
    Calls Try.prog 122 #[.int .u64 n, .int .i64 m] w fun e w' => ∃ A c, e = .returned (.tuple #[.slice A p.length c, .int .i64 q]) ∧ OwnB w' w.heap.size A p.length c p ∧ Below w.heap.size w w' := by
  have C := rput_any n m w hn
  rw [h] at C
  exact C
theorem rget_is {A : Option Addr} {n c : Nat} {b : List Int} {at_ k v q : Int} {w : World} (hb : Arg w A n c b) (ha : -9223372036854775808 ≤ at_ ∧ at_ ≤ 9223372036854775807) (hk : -9223372036854775808 ≤ k ∧ k ≤ 9223372036854775807) (h : getF b at_ k = (v, q)) :
    Calls Try.prog 112 #[.slice A n c, .int .i64 at_, .int .i64 k] w fun e w' => e = .returned (.tuple #[.int .u64 v, .int .i64 q]) ∧ Below w.heap.size w w' := by
  have C := rget_any A n c b at_ k w hb ha hk
  rw [h] at C
  exact C
theorem part_is {A : Option Addr} {n c : Nat} {b p : List Int} {at_ k q : Int} {w : World} (hb : Arg w A n c b) (ha : -9223372036854775808 ≤ at_ ∧ at_ ≤ 9223372036854775807) (hk : -9223372036854775808 ≤ k ∧ k ≤ 9223372036854775807) (h : partF b at_ k = (p, q)) :
    Calls Try.prog 101 #[.slice A n c, .int .i64 at_, .int .i64 k] w fun e w' => ∃ A' c', e = .returned (.tuple #[.slice A' p.length c', .int .i64 q]) ∧ OwnB w' w.heap.size A' p.length c' p ∧ Below w.heap.size w w' := by
  have C := part_any A n c b at_ k w hb ha hk
  rw [h] at C
  exact C
theorem rpart_is {A : Option Addr} {n c : Nat} {b p : List Int} {at_ k q : Int} {w : World} (hb : Arg w A n c b) (ha : -9223372036854775808 ≤ at_ ∧ at_ ≤ 9223372036854775807) (hk : -9223372036854775808 ≤ k ∧ k ≤ 9223372036854775807) (h : partF b at_ k = (p, q)) :
    Calls Try.prog 111 #[.slice A n c, .int .i64 at_, .int .i64 k] w fun e w' => ∃ A' c', e = .returned (.tuple #[.slice A' p.length c', .int .i64 q]) ∧ OwnB w' w.heap.size A' p.length c' p ∧ Below w.heap.size w w' := by
  have C := rpart_any A n c b at_ k w hb ha hk
  rw [h] at C
  exact C
theorem rgetCount_is {A : Option Addr} {n c : Nat} {b : List Int} {at_ v x q : Int} {w : World} (hb : Arg w A n c b) (ha : -9223372036854775808 ≤ at_ ∧ at_ ≤ 9223372036854775807) (h : getCountF b at_ = (v, x, q)) :
    Calls Try.prog 78 #[.slice A n c, .int .i64 at_] w fun e w' => e = .returned (.tuple #[.int .u64 v, .int .i64 x, .int .i64 q]) ∧ Below w.heap.size w w' := by
  have C := rgetCount_any A n c b at_ w hb ha
  rw [h] at C
  exact C
theorem rgetRow_is {A : Option Addr} {n c : Nat} {b : List Int} {at_ most x q : Int} {p : List Int} {w : World} (hb : Arg w A n c b) (ha : -9223372036854775808 ≤ at_ ∧ at_ ≤ 9223372036854775807) (hm : -9223372036854775808 ≤ most ∧ most ≤ 9223372036854775807) (h : getRowF b at_ most = (p, x, q)) :
    Calls Try.prog 113 #[.slice A n c, .int .i64 at_, .int .i64 most] w fun e w' => ∃ A' c', e = .returned (.tuple #[.slice A' p.length c', .int .i64 x, .int .i64 q]) ∧ OwnB w' w.heap.size A' p.length c' p ∧ Below w.heap.size w w' := by
  have C := rgetRow_any A n c b at_ most w hb ha hm
  rw [h] at C
  exact C

/-- what a row's text is told of bytes that came in -/
def Row8 (w : World) (a : Option Addr) (len cap : Nat) (zs : List Int) : Prop :=
  ((a = none ∧ len = 0 ∧ cap = 0 ∧ zs = []) ∨
  ∃ x, a = some x ∧ len ≤ cap ∧ cap ≤ maxLen ∧ zs.length = cap ∧ (∀ i, i < zs.length → w.cell? (x.add i) = some (.int .u8 (zs.getD i 0))) ∧ ∀ n ∈ zs, (Lit.int .u8 n).wf = true) ∧ cap ≤ 140737488351232
theorem bd8 {n : Int} (h : (Lit.int .u8 n).wf = true) : 0 ≤ n ∧ n ≤ 255 := by
  have h1 : IntKind.u8.min = 0 := rfl
  have h2 : IntKind.u8.max = 255 := rfl
  simp only [Lit.wf, Bool.and_eq_true, decide_eq_true_eq] at h
  omega
theorem bd64 {n : Int} (h : (Lit.int .i64 n).wf = true) : -9223372036854775808 ≤ n ∧ n ≤ 9223372036854775807 := by
  have h1 : IntKind.i64.min = -9223372036854775808 := rfl
  have h2 : IntKind.i64.max = 9223372036854775807 := rfl
  simp only [Lit.wf, Bool.and_eq_true, decide_eq_true_eq] at h
  omega
theorem bdu64 {n : Int} (h : (Lit.int .u64 n).wf = true) : 0 ≤ n ∧ n < 18446744073709551616 := by
  have h1 : IntKind.u64.min = 0 := rfl
  have h2 : IntKind.u64.max = 18446744073709551615 := rfl
  simp only [Lit.wf, Bool.and_eq_true, decide_eq_true_eq] at h
  omega
theorem Row8.arg {w : World} {a : Option Addr} {len cap : Nat} {zs : List Int} (h : Row8 w a len cap zs) : Arg w a len cap (zs.take len) ∧ cap ≤ 140737488351232 := by
  obtain ⟨h, hc⟩ := h
  refine ⟨?_, hc⟩
  rcases h with ⟨rfl, rfl, rfl, rfl⟩ | ⟨x, rfl, hl, hm, hz, hcell, hwf⟩
  · exact ⟨RdN.nil _ _ _, IsB.nil, Nat.le_refl _, Nat.zero_le _, Nat.zero_le _⟩
  · refine ⟨⟨by rw [ns_length, List.length_take]; omega, fun hn => ⟨x, rfl, ?_, ?_⟩⟩, fun n hn => bd8 (hwf n (List.mem_of_mem_take hn)), hl, hm, by omega⟩
    · have := World.block_lt_of_cell? w _ (hcell 0 (by omega))
      rw [block_add] at this
      exact this
    · intro j u hu
      have hj : j < len := by
        have := (List.getElem?_eq_some_iff.1 hu).1
        rw [ns_length, List.length_take] at this
        omega
      rw [ns_get _ _ _ (by rw [List.length_take]; omega)] at hu
      rw [hcell j (by omega), ← hu]
      congr 2
      rw [List.getD_eq_getElem?_getD, List.getD_eq_getElem?_getD, List.getElem?_take_of_lt hj]



theorem getRowF_len (b : List Int) (at_ most : Int) : (getRowF b at_ most).1.length ≤ b.length := by
  unfold getRowF
  split
  · split
    · simp
    · split
      · rename_i h
        obtain ⟨h1, h2, h3, h4⟩ := partF_ok h
        rw [h4]
        simp only [List.length_take, List.length_drop]; omega
      · simp
  · simp


theorem getRowF_err {b : List Int} {at_ most : Int} (h : (getRowF b at_ most).2.2 ≠ 0) : (getRowF b at_ most).1 = [] := by
  unfold getRowF at *
  split
  · rename_i h1
    split
    · rfl
    · rename_i h2
      split
      · rename_i h3
        rw [if_pos h1, if_neg h2, if_pos h3] at h
        exact absurd rfl h
      · rfl
  · rfl
/-- what a wide copy is, as bytes to read -/
theorem wide_arg {w : World} {base n : Nat} {A : Option Addr} {b : List Int} (h : OwnN w base 5 .u8 A (n + 3) (n + 3) (b ++ [7, 7, 7])) (hB : IsB b) (hl : b.length = n) (hn : n ≤ 140737488355328) : Arg w A n (n + 3) b := by
  have hs := (Own.short h (k := n) (by omega)).rd
  rw [Nat.mul_one, show ns .u8 (b ++ [7, 7, 7]) = ns .u8 b ++ ns .u8 [7, 7, 7] from ns_append _ _ _, List.take_append_of_le_length (by rw [ns_length]; omega), List.take_of_length_le (by rw [ns_length]; omega)] at hs
  exact ⟨hs, hB, by omega, by unfold maxLen; omega, hn⟩


theorem RdN.pre {w : World} {k : IntKind} {A : Option Addr} {n : Nat} {xs : List Int} (h : RdN w k A n xs) {p : Nat} (hp : p ≤ n) : RdN w k A p (xs.take p) := by
  have h0 := RdN.sub h (lo := 0) (m := p) (by omega)
  rw [List.drop_zero] at h0
  rcases A with _ | a
  · exact h0
  · have e : a.add 0 = a := by unfold Addr.add; simp
    simp only [Option.map_some, e] at h0
    exact h0
theorem keep1 {w w1 w2 : World} {A : Option Addr} {n : Nat} {b : List Int} (h : Below w.heap.size w w1 ∧ RdN w1 .u8 A n b) (k : Below w1.heap.size w1 w2) : Below w.heap.size w w2 ∧ RdN w2 .u8 A n b := ⟨bThen h.1 k, h.2.below k⟩

theorem grown_cell {w w' : World} {row : Option Nat} (hg : w.grownBy w' row) {a : Addr} {v : Value} (hc : w.cell? a = some v) (hlt : a.block < w.heap.size) (hne : row ≠ some a.block) : w'.cell? a = some v := by
  rw [← hc]
  exact World.cell?_of_block (hg.block _ hlt fun e => hne e.symm)
theorem box_cell (w : World) (cs : Array Value) (t : TypeId) (o : Obj) (j : Nat) : ((w.alloc (.cells cs t)).alloc o).cell? ⟨w.heap.size, j, none⟩ = cs[j]? := by
  refine cell_of_row _ _ _ _ t (0, 0) ?_
  rw [Below.heap_alloc (w.alloc (.cells cs t)) o _ (by simp)]
  exact heap_alloc_new w _
theorem rd_lit2 (w : World) (o : Obj) (xs : List Int) (m : Nat) (hl : m ≤ 140737488355328) (hs : xs.length = m) : RdN ((w.alloc o).alloc (.cells (ns .u8 xs).toArray 5)) .u8 (some ⟨w.heap.size + 1, 0, none⟩) m xs := by
  have h := rd_lit (w.alloc o) xs m hl hs
  have e : (w.alloc o).heap.size = w.heap.size + 1 := by simp
  rw [e] at h
  exact h

theorem run_loadVar_at {P : Program} (w : World) (ad : Addr) (ty : TypeId) (cs : List Value) (d : TypeDesc)
    (hu : P.underlying ty = some d) (hd : (match d with | .struct _ | .array _ _ => true | _ => false) = true) (hi : (P.info? ty).map (·.size) = some cs.length)
    (hc : ∀ j v, cs[j]? = some v → w.cell? (ad.add j) = some v) : (loadVar ty ad).run P w = .ok (.agg cs.toArray) w := by
  have hl : (loadCells ad cs.length).run P w = .ok cs.toArray w := run_loadCells_list (P := P) w ad cs hc
  cases hq : P.info? ty with
  | none => simp [hq] at hi
  | some i =>
    have hs : i.size = cs.length := by simpa [hq] using hi
    have hagg : (isAgg ty).run P w = .ok true w := by
      unfold isAgg
      rw [Sem.run_bind, run_underlying hu w]
      cases d <;> simp_all
    simp [loadVar, Sem.run_bind, hagg, sizeOf, typeInfo, hq, hs, hl]
theorem drop_getD (b : List Int) (p i : Nat) : (b.drop p).getD i 0 = b.getD (p + i) 0 := by
  rw [List.getD_eq_getElem?_getD, List.getD_eq_getElem?_getD, List.getElem?_drop]
theorem part_at (b : List Int) (p q : Nat) (h : p ≤ b.length) : partF b p q = if b.length < p + q then ([], 4) else ((b.drop p).take q, 0) := by
  unfold partF
  rw [if_neg (by omega)]
  by_cases h1 : b.length < p + q
  · rw [if_pos h1, if_pos (by omega)]
  · rw [if_neg h1, if_neg (by omega)]; simp

theorem count_isr {n : Int} {p : List Int} (w : World) (hn : 0 ≤ n ∧ n < 18446744073709551616) (h : countF n = p) :
    Calls Try.prog 87 #[.int .u64 n] w fun e w' => ∃ A c, e = .returned (.slice A p.length c) ∧ OwnB w' w.heap.size A p.length c p ∧ Below w.heap.size w w' := by
  have C := rcount_any n w hn
  rw [h] at C
  exact C
theorem row_is {A : Option Addr} {n c : Nat} {b p : List Int} {w : World} (hb : Arg w A n c b) (h9 : n + 9 ≤ 140737488355328) (h : rowF b = p) :
    Calls Try.prog 97 #[.slice A n c] w fun e w' => ∃ A' c', e = .returned (.slice A' p.length c') ∧ OwnB w' w.heap.size A' p.length c' p ∧ Below w.heap.size w w' := by
  have C := row_any A n c b w hb h9
  rw [h] at C
  exact C
theorem rrow_is {A : Option Addr} {n c : Nat} {b p : List Int} {w : World} (hb : Arg w A n c b) (h9 : n + 9 ≤ 140737488355328) (h : rowF b = p) :
    Calls Try.prog 116 #[.slice A n c] w fun e w' => ∃ A' c', e = .returned (.slice A' p.length c') ∧ OwnB w' w.heap.size A' p.length c' p ∧ Below w.heap.size w w' := by
  have C := rrow_any A n c b w hb h9
  rw [h] at C
  exact C
end Go.Proofs.Ytofclanljhfkiaa
/- Arguments opened to what the contracts are told: bytes; fields of structs; elements of slices; each with its size. -/
namespace Go.Proofs.Ytofclanljhfkiaa
open Go.RowKit Go.Proofs En
set_option linter.unusedVariables false
set_option linter.unusedSimpArgs false
set_option maxRecDepth 20000

section
variable {H : Type} {P : Program}
/-- all that it weighs is within the reach -/
def Small (P : Program) (t : TypeId) (d : DataW H) : Prop := ∀ n ∈ d.weights P t, n ≤ reachBytes
theorem Small.of_all {ts : List TypeId} {ds : List (DataW H)} (h : (DataW.weightsEach P ts ds).all (· ≤ reachBytes) = true) {j : Nat} {t : TypeId} {d : DataW H} (ht : ts[j]? = some t) (hd : ds[j]? = some d) : Small P t d := by
  intro n hn
  have := List.all_eq_true.1 h _ (DataW.weights_mem_each ht hd n hn)
  simpa using this
theorem weightsAll_mem {e : TypeId} {ds : List (DataW H)} {d : DataW H} (hd : d ∈ ds) {n : Nat} (hn : n ∈ d.weights P e) : n ∈ DataW.weightsAll P e ds := by
  induction ds with
  | nil => cases hd
  | cons x ds ih =>
    rw [DataW.weightsAll, List.mem_append]
    rcases List.mem_cons.1 hd with rfl | hd
    · exact .inl hn
    · exact .inr (ih hd)
theorem Small.elem {t e : TypeId} {el sp : List (DataW H)} (hu : P.underlying t = some (.slice e)) (h : Small P t (.slice el sp)) : (el.length + sp.length) * P.bytesOf e ≤ reachBytes ∧ ∀ d ∈ el, Small P e d := by
  unfold Small at *
  simp only [DataW.weights, hu] at h
  exact ⟨h _ (List.mem_cons_self ..), fun d hd n hn => h n (List.mem_cons_of_mem _ (List.mem_append_left _ (weightsAll_mem hd hn)))⟩
theorem Small.part {t : TypeId} {fs : Array Field} {ps : List (DataW H)} (hu : P.underlying t = some (.struct fs)) (h : Small P t (.agg ps)) {i : Nat} {f : Field} {d : DataW H} (hf : fs[i]? = some f) (hd : ps[i]? = some d) : Small P f.type d := by
  unfold Small at *
  simp only [DataW.weights, hu] at h
  exact fun n hn => h n (DataW.weights_mem_each (j := i) (by rw [List.getElem?_map]; rw [show fs.toList[i]? = some f from by simpa using hf]; rfl) hd n hn)

variable {enc : TypeId × Value → H} {w : World} {fuel : Nat} {cs : List Value} {x : DataW H × List MemPlace}
/-- a field -/
theorem open_field {t : TypeId} {fs : Array Field} (ht : P.underlying t = some (.struct fs)) (h : DataW.trod enc P w 0 (fun _ => true) true fuel t cs = some x) (hS : Small P t x.1) {i : Nat} {f : Field} (hf : fs[i]? = some f) :
    ∃ y n, DataW.trod enc P w 0 (fun _ => true) true n f.type ((cs.drop f.offset).take (P.cellsOf f.type)) = some y ∧ Small P f.type y.1 := by
  obtain ⟨xs, n, _, hx, _, hlen, hg⟩ := DataW.trod_struct ht h
  have h1 := hg i f hf
  have hi : i < xs.length := by rw [hlen]; exact (Array.getElem?_eq_some_iff.1 hf).1
  rw [List.getElem?_eq_getElem hi] at h1
  rw [hx] at hS
  exact ⟨_, n, h1, hS.part ht hf (by rw [List.getElem?_map, List.getElem?_eq_getElem hi]; rfl)⟩
/-- an element of an array -/
theorem open_at {t e : TypeId} {m : Nat} (ht : P.underlying t = some (.array m e)) (h : DataW.trod enc P w 0 (fun _ => true) true fuel t cs = some x) {i : Nat} (hi : i < m) :
    ∃ y n, DataW.trod enc P w 0 (fun _ => true) true n e ((cs.drop (i * P.cellsOf e)).take (P.cellsOf e)) = some y := by
  obtain ⟨xs, n, _, hx, _, hlen, hg⟩ := DataW.trod_array ht h
  have h1 := hg i hi
  rw [List.getElem?_eq_getElem (by omega)] at h1
  exact ⟨_, n, h1⟩
/-- the elements of a slice -/
theorem open_elems {t e : TypeId} (ht : P.underlying t = some (.slice e)) {v : Value} (h : DataW.trod enc P w 0 (fun _ => true) true fuel t [v] = some x) (hS : Small P t x.1) :
    v = .slice none 0 0 ∨ ∃ (a : Addr) (len cap : Nat), v = .slice (some a) len cap ∧ len ≤ cap ∧ cap ≤ maxLen ∧ cap * P.bytesOf e ≤ reachBytes ∧
      ∀ i, i < len → ∃ cs' y n, cs'.length = P.cellsOf e ∧ (∀ j, j < P.cellsOf e → w.cell? ((a.add (i * P.cellsOf e)).add j) = cs'[j]?) ∧ DataW.trod enc P w 0 (fun _ => true) true n e cs' = some y ∧ Small P e y.1 := by
  rcases Go.Deep.open_slice ht h with ⟨h0, _⟩ | ⟨a, len, cap, m, n, D, Pl, hcs, hb, hl, hm, hmm, hx, hi⟩
  · exact .inl (List.cons.inj h0).1
  · simp only [if_true] at hmm
    subst hmm
    rw [hx] at hS
    obtain ⟨h1, h2⟩ := hS.elem ht
    simp only [List.length_map, List.length_range] at h1
    refine .inr ⟨a, len, m, (List.cons.inj hcs).1, hl, hm, by rwa [show len + (m - len) = m from by omega] at h1, fun i hlt => ?_⟩
    obtain ⟨cs', hc, htr⟩ := hi i (by omega)
    obtain ⟨_, hcl, hat⟩ := World.cells?_some hc
    exact ⟨cs', _, n, hcl, hat, htr, h2 _ (List.mem_map.2 ⟨i, List.mem_range.2 hlt, rfl⟩)⟩

/-- bytes -/
theorem open_bytes {t e : TypeId} (ht : P.underlying t = some (.slice e)) (he : P.underlying e = some (.int .u8)) (hc : P.cellsOf e = 1) (hb : P.bytesOf e = 1) {v : Value}
    (h : DataW.trod enc P w 0 (fun _ => true) true fuel t [v] = some x) (hS : Small P t x.1) : ∃ A n c b, v = .slice A n c ∧ Arg w A n c b ∧ c ≤ 140737488351232 := by
  rcases open_elems ht h hS with rfl | ⟨a, len, cap, rfl, hl, hm, hr, hi⟩
  · exact ⟨none, 0, 0, [], rfl, ⟨RdN.nil _ _ _, IsB.nil, Nat.le_refl _, Nat.zero_le _, Nat.zero_le _⟩, Nat.zero_le _⟩
  · rw [hb, Nat.mul_one] at hr
    unfold reachBytes at hr
    have hx : ∀ i, i < len → ∃ z : Int, w.cell? (a.add i) = some (.int .u8 z) ∧ 0 ≤ z ∧ z ≤ 255 := by
      intro i hlt
      obtain ⟨cs', y, n, h1, h2, h3, h4⟩ := hi i hlt
      obtain ⟨z, rfl, _, hwf⟩ := DataW.trod_int he h3
      rw [hc] at h2
      have h5 := h2 0 (by omega)
      rw [Nat.mul_one, add_add, Nat.add_zero] at h5
      refine ⟨z, h5, ?_⟩
      have := hwf
      simp [Lit.wf, IntKind.min, IntKind.max, IntKind.signed, IntKind.bits] at this
      omega
    have hf : ∃ f : Nat → Int, ∀ i, i < len → w.cell? (a.add i) = some (.int .u8 (f i)) ∧ 0 ≤ f i ∧ f i ≤ 255 := by
      refine ⟨fun i => if h : i < len then Classical.choose (hx i h) else 0, fun i h => ?_⟩
      simp only [h, dif_pos]
      exact Classical.choose_spec (hx i h)
    obtain ⟨f, hf⟩ := hf
    refine ⟨some a, len, cap, (List.range len).map f, rfl, ⟨⟨by simp [ns_length], fun hn => ⟨a, rfl, ?_, ?_⟩⟩, ?_, hl, hm, by omega⟩, by omega⟩
    · have h0 := (hf 0 hn).1
      have := World.block_lt_of_cell? _ _ h0
      rwa [block_add] at this
    · intro j u hu
      unfold ns at hu
      rw [List.getElem?_map, List.getElem?_map] at hu
      by_cases hj : j < len
      · rw [List.getElem?_range hj] at hu
        simp only [Option.map_some, Option.some.injEq] at hu
        rw [← hu]
        exact (hf j hj).1
      · rw [List.getElem?_eq_none (by simp; omega)] at hu
        cases hu
    · intro z hz
      obtain ⟨i, hi2, rfl⟩ := List.mem_map.1 hz
      exact (hf i (List.mem_range.1 hi2)).2
end
end Go.Proofs.Ytofclanljhfkiaa
/- Arguments of a statement, opened: bytes, numbers, truths. -/
namespace Go.Proofs.Ytofclanljhfkiaa
open Go.RowKit Go.Proofs En Go.ChangeShapes Go.WideShapes Go.Joins
set_option linter.unusedVariables false
set_option linter.unusedSimpArgs false
set_option maxRecDepth 20000

section
variable {H : Type} {enc : TypeId × Value → H} {W : World} {base : Nat} {v : Value} {d : DataW H} {ps : List MemPlace}
theorem arg_bytes (hval : Value.okWide Try.prog W .any base 40 v) (h : DataW.Trod enc Try.prog W 0 (fun _ => true) true 40 v d ps) (hs : Small Try.prog 40 d) :
    ∃ A n c b, v = .slice A n c ∧ (Arg W A n c b ∧ c ≤ 140737488351232) := by
  obtain ⟨A, n, c, rfl⟩ := okWide_slice Try.underlying40 hval
  obtain ⟨fuel, hf⟩ := h
  obtain ⟨A', n', c', b, he, h1, h2⟩ := open_bytes Try.underlying40 Try.underlying5 (by kernel_rfl) (by kernel_rfl) hf hs
  injection he with e1 e2 e3
  subst e1 e2 e3
  exact ⟨_, _, _, b, rfl, h1, h2⟩
theorem arg_i64 (hval : Value.okWide Try.prog W .any base 3 v) (h : DataW.Trod enc Try.prog W 0 (fun _ => true) true 3 v d ps) (hs : Small Try.prog 3 d) :
    ∃ a, v = .int .i64 a ∧ (-9223372036854775808 ≤ a ∧ a ≤ 9223372036854775807) := by
  obtain ⟨a, rfl, rfl, rfl, hw⟩ := open_int Try.underlying3 hval h
  refine ⟨a, rfl, ?_⟩
  have h1 : IntKind.i64.min = -9223372036854775808 := rfl
  have h2 : IntKind.i64.max = 9223372036854775807 := rfl
  simp only [Lit.wf, Bool.and_eq_true, decide_eq_true_eq] at hw
  omega
theorem arg_u8 (hval : Value.okWide Try.prog W .any base 5 v) (h : DataW.Trod enc Try.prog W 0 (fun _ => true) true 5 v d ps) (hs : Small Try.prog 5 d) :
    ∃ a, v = .int .u8 a ∧ (0 ≤ a ∧ a ≤ 255) := by
  obtain ⟨a, rfl, rfl, rfl, hw⟩ := open_int Try.underlying5 hval h
  refine ⟨a, rfl, ?_⟩
  have h1 : IntKind.u8.min = 0 := rfl
  have h2 : IntKind.u8.max = 255 := rfl
  simp only [Lit.wf, Bool.and_eq_true, decide_eq_true_eq] at hw
  omega
theorem arg_bool (hval : Value.okWide Try.prog W .any base 4 v) (h : DataW.Trod enc Try.prog W 0 (fun _ => true) true 4 v d ps) (hs : Small Try.prog 4 d) :
    ∃ a, v = .bool a ∧ True := by
  obtain ⟨a, rfl, _⟩ := open_bool Try.underlying4 hval h
  exact ⟨a, rfl, trivial⟩
end
end Go.Proofs.Ytofclanljhfkiaa
/- append at a step of a region that draws its order; make of an empty row with room. -/
namespace Go.Proofs.Ytofclanljhfkiaa
open Go.RowKit Go.Proofs
set_option linter.unusedVariables false
set_option linter.unusedSimpArgs false
set_option maxRecDepth 20000

theorem wp_appN {P : Program} (w : World) {o : Oper} {a : Act} {K : Act → World → Prop} {Q : Exit → Act → World → Prop} (s x : Operand) (t : TypeId)
    (ho : o.op = .call { callee := .builtin .append, args := #[s, x], argTypes := #[t, t] })
    (base : Nat) (e : TypeId) (k : IntKind) (bytes : Nat) (ht : P.underlying t = some (.slice e)) (hinf : (P.info? e).map (fun i => (i.zero, i.size, i.bytes)) = some (some (.int k 0), 1, bytes))
    (A : Option Addr) (n c : Nat) (xs : List Int) (hs : a.eval s = .slice A n c) (hown : OwnN w base e k A n c xs)
    (B : Option Addr) (m d : Nat) (ys : List Int) (hx : a.eval x = .slice B m d) (hr : RdN w k B m ys)
    (h63 : n + m ≤ maxLen) (hbytes : (n + m) * bytes ≤ 140737488355328) (hbase : base ≤ w.heap.size)
    (h : ∀ A' c' w', OwnN w' base e k A' (n + m) c' (xs ++ ys) → w.grownBy w' (blk A) → (A' = A ∨ A' = some ⟨w.heap.size, 0, none⟩) → K (a.put o.dst (.slice A' (n + m) c')) w') :
    o.wp P a w K Q := by
  obtain ⟨i, hi, hz, hsz, hby⟩ := info_of hinf
  obtain ⟨A', c', w', hrun, h2, h3, h4⟩ := run_app (P := P) w base t o.type e i (.int k 0) 1 bytes (Num k) ht hi hz hsz hby rfl (by omega) (fun u hu => by
    have : u = .int k 0 := by simpa [Value.cells] using hu
    exact ⟨0, this⟩) A n c (ns k xs) hown B m d (ns k ys) hr (fun u hu => num_one (ns_num k ys u hu)) (ns_num k ys) h63 hbytes hbase
  rw [← ns_append] at h2
  unfold Oper.wp execOp
  simp only [ho, resolve, invoke, builtin, Sem.run_bind, Sem.run_pure, Result.andThen_ok, List.map_toArray, List.map_cons, List.map_nil, hs, hx, hrun]
  exact h _ _ _ h2 h3 h4
theorem step_appN {P : Program} (w : World) {ops : Array Oper} {o : Oper} {a : Act} {K : Act → World → Prop} {Q : Exit → Act → World → Prop} {E : Prop} (hgd : o.guard = none) (s x : Operand) (t : TypeId)
    (ho : o.op = .call { callee := .builtin .append, args := #[s, x], argTypes := #[t, t] })
    (base : Nat) (e : TypeId) (k : IntKind) (bytes : Nat) (ht : P.underlying t = some (.slice e)) (hinf : (P.info? e).map (fun i => (i.zero, i.size, i.bytes)) = some (some (.int k 0), 1, bytes))
    (A : Option Addr) (n c : Nat) (xs : List Int) (hs : a.eval s = .slice A n c) (hown : OwnN w base e k A n c xs)
    (B : Option Addr) (m d : Nat) (ys : List Int) (hx : a.eval x = .slice B m d) (hr : RdN w k B m ys)
    (h63 : n + m ≤ maxLen) (hbytes : (n + m) * bytes ≤ 140737488355328) (hbase : base ≤ w.heap.size)
    (h : ∀ A' c' w', OwnN w' base e k A' (n + m) c' (xs ++ ys) → w.grownBy w' (blk A) → (A' = A ∨ A' = some ⟨w.heap.size, 0, none⟩) → K (a.put o.dst (.slice A' (n + m) c')) w') :
    if Region.wanted o (yielded ops a.tmps) = true then Oper.wp P o a w K Q else E := by
  have hw : Region.wanted o (yielded ops a.tmps) = true := by simp [Region.wanted, hgd]
  rw [if_pos hw]
  exact wp_appN w s x t ho base e k bytes ht hinf A n c xs hs hown B m d ys hx hr h63 hbytes hbase h

theorem OwnN.laid {w : World} {base : Nat} {e : TypeId} {k : IntKind} (xs : List Int) (m n : Nat) (hb : base ≤ w.heap.size) (hm : n ≤ m) (hl : m ≤ maxLen) (hs : xs.length = m) :
    OwnN (w.alloc (.cells (ns k xs).toArray e)) base e k (some ⟨w.heap.size, 0, none⟩) n m (xs.take n) := by
  have h := Own.laid (base := base) (e := e) (size := 1) (G := Num k) w (ns k xs).toArray m n hb hm hl (by simp [ns_length, hs]) (by simpa using ns_num k xs)
  unfold OwnN
  rw [show ns k (xs.take n) = (ns k xs).take n from by unfold ns; rw [List.map_take]]
  simpa using h
end Go.Proofs.Ytofclanljhfkiaa
/- What bytes.Compare answers. -/
namespace Go.Proofs.Ytofclanljhfkiaa
open Go.RowKit Go.Proofs En
set_option linter.unusedVariables false
set_option linter.unusedSimpArgs false
set_option maxRecDepth 20000

def cmpL : List Int → List Int → Int
  | [], [] => 0
  | [], _ :: _ => -1
  | _ :: _, [] => 1
  | x :: xs, y :: ys => if x < y then -1 else if y < x then 1 else cmpL xs ys
theorem u8_lt (x y : Int) (hx : 0 ≤ x ∧ x ≤ 255) (hy : 0 ≤ y ∧ y ≤ 255) : (x.toNat.toUInt8 < y.toNat.toUInt8) ↔ x < y := by
  rw [UInt8.lt_iff_toNat_lt]
  simp only [Nat.toUInt8, UInt8.toNat_ofNat']
  omega
theorem cmpL_bytes : ∀ (xs ys : List Int), IsB xs → IsB ys → Lib.compareBytes (Lib.bytesOf xs) (Lib.bytesOf ys) = cmpL xs ys := by
  intro xs
  induction xs with
  | nil => intro ys _ _; cases ys <;> rfl
  | cons x xs ih =>
    intro ys hx hy
    cases ys with
    | nil => rfl
    | cons y ys =>
      have h1 := hx x (List.mem_cons_self ..)
      have h2 := hy y (List.mem_cons_self ..)
      have h3 := ih ys (fun z hz => hx z (List.mem_cons_of_mem _ hz)) (fun z hz => hy z (List.mem_cons_of_mem _ hz))
      show (if x.toNat.toUInt8 < y.toNat.toUInt8 then (-1 : Int) else if y.toNat.toUInt8 < x.toNat.toUInt8 then 1 else Lib.compareBytes (Lib.bytesOf xs) (Lib.bytesOf ys)) = if x < y then -1 else if y < x then 1 else cmpL xs ys
      rw [h3]
      by_cases a : x < y
      · rw [if_pos a, if_pos ((u8_lt x y h1 h2).2 a)]
      · rw [if_neg a, if_neg (fun h => a ((u8_lt x y h1 h2).1 h))]
        by_cases b : y < x
        · rw [if_pos b, if_pos ((u8_lt y x h2 h1).2 b)]
        · rw [if_neg b, if_neg (fun h => b ((u8_lt y x h2 h1).1 h))]
theorem run_bytesOf {P : Program} {w : World} {A : Option Addr} {n : Nat} {xs : List Int} (c : Nat) (h : RdN w .u8 A n xs) : (Extern.Bytes.bytesOf (.slice A n c)).run P w = .ok ⟨(Lib.bytesOf xs).toArray⟩ w := by
  have hl := h.len
  cases A with
  | none =>
    have hn : n = 0 := by
      rcases Nat.eq_zero_or_pos n with h0 | h0
      · exact h0
      · obtain ⟨ad, e, _⟩ := h.2 h0
        cases e
    have hx : xs = [] := List.eq_nil_of_length_eq_zero (by omega)
    subst hx
    rfl
  | some a =>
    have hr := Lib.run_loadBytesX (P := P) w xs a .empty (fun j x hj => by
      have hj2 := (List.getElem?_eq_some_iff.1 hj).1
      obtain ⟨ad, e, _, hc⟩ := h.at_ (i := j) (by omega)
      injection e with e
      subst e
      rw [hc, List.getD_eq_getElem?_getD, hj]
      rfl)
    rw [hl] at hr
    have he : (⟨ByteArray.empty.data ++ (Lib.bytesOf xs).toArray⟩ : ByteArray) = ⟨(Lib.bytesOf xs).toArray⟩ := by
      apply ByteArray.ext
      show (#[] : Array UInt8) ++ (Lib.bytesOf xs).toArray = (Lib.bytesOf xs).toArray
      simp
    rw [he] at hr
    exact hr
theorem run_cmp {P : Program} {w : World} {A B : Option Addr} {n m : Nat} {xs ys : List Int} (c d : Nat) (hA : RdN w .u8 A n xs) (hB : RdN w .u8 B m ys) (hx : IsB xs) (hy : IsB ys) :
    (Extern.BytealgCompare.compare #[.slice A n c, .slice B m d]).run P w = .ok (.int .i64 (cmpL xs ys)) w := by
  change Sem.run P (do pure (goInt (Extern.BytealgCompare.cmp (← Extern.Bytes.bytesOf (.slice A n c)) (← Extern.Bytes.bytesOf (.slice B m d))))) w = _
  simp only [Sem.run_bind, Sem.run_pure, run_bytesOf c hA, run_bytesOf d hB, Result.andThen]
  rw [Lib.cmp_eq, ← cmpL_bytes xs ys hx hy]
  rfl

set_option maxHeartbeats 400000 in
theorem compare_any (A : Option Addr) (n c : Nat) (xs : List Int) (B : Option Addr) (m d : Nat) (ys : List Int) (w : World) (hA : RdN w .u8 A n xs) (hB : RdN w .u8 B m ys) (hx : IsB xs) (hy : IsB ys) :
    Calls Try.prog 110 #[.slice A n c, .slice B m d] w fun e w' => e = .returned (.int .i64 (cmpL xs ys)) ∧ w = w' := by
  have h1 := run_cmp (P := Try.prog) c d hA hB hx hy
  generalize cmpL xs ys = r at *
  clear hA hB hx hy
  go_enter Try.func110, Try.ntmps110
  go_wp2_with (fail)
  rw [run_callFunc_extern Try.func120 (by kernel_rfl) (by kernel_rfl) (by kernel_rfl) (e := Extern.BytealgCompare.compare) (by kernel_rfl), h1]
  simp only [Result.andThen]
  rw [Oper.upon_value]
  go_wp2_with (fail)
  go_ret
  exact ⟨rfl, rfl⟩
end Go.Proofs.Ytofclanljhfkiaa
/- Whole structs and arrays: compared, built, stored, loaded, returned. For whatever program. -/
namespace Go.Proofs.Ytofclanljhfkiaa
open Go.RowKit Go.Proofs
set_option linter.unusedVariables false
set_option linter.unusedSimpArgs false
set_option maxRecDepth 20000

theorem run_equalIn_bytes {P : Program} (w : World) (d : Nat) (t e : TypeId) (len : Nat) (ht : P.underlying t = some (.array len e)) (he : P.underlying e = some (.int .u8)) (hi : (P.info? e).map (·.size) = some 1)
    (xs ys : List Int) (hx : xs.length = len) (hy : ys.length = len) :
    (Op.equalIn (d + 2) t (.agg (ns .u8 xs).toArray) (.agg (ns .u8 ys).toArray)).run P w = .ok (decide (xs = ys)) w := by
  have hsz : (sizeOf e).run P w = .ok 1 w := by
    cases hq : P.info? e with
    | none => simp [hq] at hi
    | some i =>
      have hs : i.size = 1 := by simpa [hq] using hi
      simp [sizeOf, typeInfo, hq, hs]
  have hag : (isAgg e).run P w = .ok false w := by
    unfold isAgg
    rw [Sem.run_bind, run_underlying he w]
    rfl
  have hpart : ∀ (zs : List Int) (i : Nat), i < zs.length → (part e (ns .u8 zs).toArray i).run P w = .ok (.int .u8 (zs.getD i 0)) w := by
    intro zs i hlt
    unfold part
    rw [Sem.run_bind, hag]
    simp only [Result.andThen_ok]
    have : (ns .u8 zs).toArray[i]? = some (.int .u8 (zs.getD i 0)) := by simpa using ns_get .u8 zs i hlt
    simp [this]
  have heq : ∀ a b, (Op.equalIn (d + 1) e (.int .u8 a) (.int .u8 b)).run P w = .ok (a == b) w := fun a b => run_equalIn_int w d e .u8 .u8 a b he
  show (Op.equalIn (d + 1 + 1) t (.agg (ns .u8 xs).toArray) (.agg (ns .u8 ys).toArray)).run P w = _
  generalize d + 1 = D at heq ⊢
  simp only [Op.equalIn, Sem.run_bind, run_underlying ht, Result.andThen_ok, hsz, Nat.mul_one]
  rw [Std.Legacy.Range.forIn_eq_forIn_range']
  simp only [Std.Legacy.Range.size, Nat.sub_zero, Nat.add_sub_cancel, Nat.div_one]
  have H : ∀ (m s : Nat), s + m = len → xs.take s = ys.take s → (forIn (List.range' s m) ((none : Option Bool), ()) (fun i __s => do
      let a ← part e (ns .u8 xs).toArray i
      let b ← part e (ns .u8 ys).toArray i
      let c ← Op.equalIn D e a b
      if (!c) = true then pure (ForInStep.done (some false, ())) else pure (ForInStep.yield (none, ()))) : Sem (Option Bool × Unit)).run P w = .ok (if xs = ys then (none, ()) else (some false, ())) w := by
    intro m
    induction m with
    | zero =>
      intro s hs ht
      have e1 : xs = ys := by
        rw [List.take_of_length_le (by omega), List.take_of_length_le (by omega)] at ht
        exact ht
      simp [e1]
    | succ m ih =>
      intro s hs ht
      rw [List.range'_succ]
      simp only [List.forIn_cons, Sem.run_bind, hpart xs s (by omega), hpart ys s (by omega), Result.andThen_ok, heq]
      by_cases hxy : xs.getD s 0 = ys.getD s 0
      · have hb : (xs.getD s 0 == ys.getD s 0) = true := by rw [beq_iff_eq]; exact hxy
        have ht' : xs.take (s + 1) = ys.take (s + 1) := by
          rw [List.take_succ_eq_append_getElem (by omega), List.take_succ_eq_append_getElem (by omega), ht]
          rw [List.getD_eq_getElem?_getD, List.getD_eq_getElem?_getD, List.getElem?_eq_getElem (by omega), List.getElem?_eq_getElem (by omega)] at hxy
          have hxy' : xs[s] = ys[s] := hxy
          rw [hxy']
        simp only [hb, Bool.not_true, Bool.false_eq_true, if_false, Sem.run_pure, Result.andThen_ok]
        exact ih (s + 1) (by omega) ht'
      · have hb : (xs.getD s 0 == ys.getD s 0) = false := by rw [beq_eq_false_iff_ne]; exact hxy
        have hne : xs ≠ ys := fun h => hxy (by rw [h])
        simp only [hb, Bool.not_false, if_true, Sem.run_pure, Result.andThen_ok, if_neg hne]
  rw [H len 0 (by omega) (by simp)]
  by_cases h : xs = ys
  · simp [h]
  · simp [h]
end Go.Proofs.Ytofclanljhfkiaa
/- Where a walk is to stand at an operation on a whole struct; results that lie in a cell. For whatever program. -/
namespace Go.Proofs.Ytofclanljhfkiaa
open Go.RowKit Go.Proofs
set_option linter.unusedVariables false
set_option linter.unusedSimpArgs false
set_option maxRecDepth 20000

section
variable {P : Program} {ops : Array Oper} {Q : Exit → Act → World → Prop} {rest : List Oper} {a : Act} {w : World} {d : Option Tmp} {ty : TypeId} {pos : String} {after : Array Edge}
theorem at_load (T : TypeId) {x : Operand} (h : Stop (wpList P ops Q ({ dst := d, op := .load T x, type := ty, pos := pos, after := after, guard := none } :: rest) a w)) : wpList P ops Q ({ dst := d, op := .load T x, type := ty, pos := pos, after := after, guard := none } :: rest) a w := h
theorem at_store (T : TypeId) {x y : Operand} (h : Stop (wpList P ops Q ({ dst := d, op := .store T x y, type := ty, pos := pos, after := after, guard := none } :: rest) a w)) : wpList P ops Q ({ dst := d, op := .store T x y, type := ty, pos := pos, after := after, guard := none } :: rest) a w := h
theorem at_build (T : TypeId) {ps : Array (Nat × Operand)} (h : Stop (wpList P ops Q ({ dst := d, op := .build T ps, type := ty, pos := pos, after := after, guard := none } :: rest) a w)) : wpList P ops Q ({ dst := d, op := .build T ps, type := ty, pos := pos, after := after, guard := none } :: rest) a w := h
theorem at_bin (b : BinOp) (T : TypeId) {x y : Operand} {yt : TypeId} (h : Stop (wpList P ops Q ({ dst := d, op := .binOp b T x y yt, type := ty, pos := pos, after := after, guard := none } :: rest) a w)) : wpList P ops Q ({ dst := d, op := .binOp b T x y yt, type := ty, pos := pos, after := after, guard := none } :: rest) a w := h
theorem at_op {o : Oper} (t : Nat) (ho : o.dst = some t) (h : Stop (wpList P ops Q (o :: rest) a w)) : wpList P ops Q (o :: rest) a w := h

theorem wpList_val {o : Oper} {w' : World} (hgd : o.guard = none) (v : Value) (hr : (execOp a.eval o).run P w = .ok (.value v) w') (h : wpList P ops Q rest (a.put o.dst v) w') : wpList P ops Q (o :: rest) a w := by
  refine wpList_plain hgd fun K hK => ?_
  unfold Oper.wp
  rw [hr]
  exact hK _ _ h
theorem wpList_eqagg {o : Oper} (hgd : o.guard = none) (T yt : TypeId) (x y : Operand) (ho : o.op = .binOp .eql T x y yt) (cs ds : Array Value) (hx : a.eval x = .agg cs) (hy : a.eval y = .agg ds) (r : Bool)
    (hg : (eqGuard .eql T x y (.agg cs) (.agg ds)).run P w = .ok () w) (hr : (binOp .eql T (.agg cs) (.agg ds)).run P w = .ok (.bool r) w) (h : wpList P ops Q rest (a.put o.dst (.bool r)) w) : wpList P ops Q (o :: rest) a w := by
  refine wpList_plain hgd fun K hK => ?_
  unfold Oper.wp execOp
  simp only [ho, hx, hy, Sem.run_bind, Sem.run_pure, Result.andThen_ok, hg, hr]
  exact hK _ _ h
theorem wpList_neagg {o : Oper} (hgd : o.guard = none) (T yt : TypeId) (x y : Operand) (ho : o.op = .binOp .neq T x y yt) (cs ds : Array Value) (hx : a.eval x = .agg cs) (hy : a.eval y = .agg ds) (r : Bool)
    (hg : (eqGuard .neq T x y (.agg cs) (.agg ds)).run P w = .ok () w) (hr : (binOp .neq T (.agg cs) (.agg ds)).run P w = .ok (.bool r) w) (h : wpList P ops Q rest (a.put o.dst (.bool r)) w) : wpList P ops Q (o :: rest) a w := by
  refine wpList_plain hgd fun K hK => ?_
  unfold Oper.wp execOp
  simp only [ho, hx, hy, Sem.run_bind, Sem.run_pure, Result.andThen_ok, hg, hr]
  exact hK _ _ h
end

/-- a row that has been written whole -/
theorem below_setRow {B : Nat} {a w : World} (h : Below B a w) {g : Nat} (hg : B ≤ g) (hz : B ≤ w.heap.size) (cs : Array Value) : Below B a (w.setRow g cs) :=
  h.grown (row := some g) ⟨rfl, rfl, rfl, by simp, fun k _ hk => setRow_other w g k _ (fun e => hk (by rw [e]))⟩ hz (fun k hk => by injection hk with hk; omega)

section
variable {P : Program} {fn : Func} {w : World} {tmps : Array Value}
theorem res_cell3 {c i j : Tmp} {T : TypeId} {v : Value} {ad : Addr} (hf : fn.results = #[.cell c T, .tmp i, .tmp j]) (hc : tmps.getD c undef = .pointer (some ad)) (hl : (loadVar T ad).run P w = .ok v w) :
    (results fn tmps).run P w = .ok (.tuple #[v, tmps.getD i undef, tmps.getD j undef]) w := by
  have hc' := hc
  simp at hc'
  simp only [results, hf, Sem.run_bind]
  simp [List.mapM_cons, Sem.run_bind, hc', asAddr, hl]
theorem res_cell2 {c i : Tmp} {T : TypeId} {v : Value} {ad : Addr} (hf : fn.results = #[.cell c T, .tmp i]) (hc : tmps.getD c undef = .pointer (some ad)) (hl : (loadVar T ad).run P w = .ok v w) :
    (results fn tmps).run P w = .ok (.tuple #[v, tmps.getD i undef]) w := by
  have hc' := hc
  simp at hc'
  simp only [results, hf, Sem.run_bind]
  simp [List.mapM_cons, Sem.run_bind, hc', asAddr, hl]
theorem res_cell1 {c : Tmp} {T : TypeId} {v : Value} {ad : Addr} (hf : fn.results = #[.cell c T]) (hc : tmps.getD c undef = .pointer (some ad)) (hl : (loadVar T ad).run P w = .ok v w) :
    (results fn tmps).run P w = .ok v w := by
  have hc' := hc
  simp at hc'
  simp only [results, hf, Sem.run_bind]
  simp [List.mapM_cons, Sem.run_bind, hc', asAddr, hl]
end
end Go.Proofs.Ytofclanljhfkiaa
