/- The contracts of layer 1, each under its answer's name; small words. -/
import Derived.Test.YtejablcdpakgoaaEndsF
import Derived.Test.YtejablcdpakgoaaSame
import Derived.Deep.RegionHeld3
namespace Go.Proofs.Ytejablcdpakgoaa
open Go.RowKit Go.Proofs En
set_option linter.unusedVariables false
set_option linter.unusedSimpArgs false

theorem put_is {n m : Int} {p : List Int} {q : Int} (w : World) (hn : 0 ≤ n ∧ n < 18446744073709551616) (h : putF n m = (p, q)) :
    Calls Try.prog 48 #[.int .u64 n, .int .i64 m] w fun e w' => ∃ A c, e = .returned (.tuple #[.slice A p.length c, .int .i64 q]) ∧ OwnB w' w.heap.size A p.length c p ∧ Below w.heap.size w w' := by
  have C := put_any n m w hn
  rw [h] at C
  exact C
theorem get_is {A : Option Addr} {n c : Nat} {b : List Int} {at_ k v q : Int} {w : World} (hb : Arg w A n c b) (ha : -9223372036854775808 ≤ at_ ∧ at_ ≤ 9223372036854775807) (hk : -9223372036854775808 ≤ k ∧ k ≤ 9223372036854775807) (h : getF b at_ k = (v, q)) :
    Calls Try.prog 36 #[.slice A n c, .int .i64 at_, .int .i64 k] w fun e w' => e = .returned (.tuple #[.int .u64 v, .int .i64 q]) ∧ Below w.heap.size w w' := by
  have C := get_any A n c b at_ k w hb ha hk
  rw [h] at C
  exact C
theorem getCount_is {A : Option Addr} {n c : Nat} {b : List Int} {at_ v x q : Int} {w : World} (hb : Arg w A n c b) (ha : -9223372036854775808 ≤ at_ ∧ at_ ≤ 9223372036854775807) (h : getCountF b at_ = (v, x, q)) :
    Calls Try.prog 51 #[.slice A n c, .int .i64 at_] w fun e w' => e = .returned (.tuple #[.int .u64 v, .int .i64 x, .int .i64 q]) ∧ Below w.heap.size w w' := by
  have C := getCount_any A n c b at_ w hb ha
  rw [h] at C
  exact C
theorem getRow_is {A : Option Addr} {n c : Nat} {b : List Int} {at_ most x q : Int} {p : List Int} {w : World} (hb : Arg w A n c b) (ha : -9223372036854775808 ≤ at_ ∧ at_ ≤ 9223372036854775807) (hm : -9223372036854775808 ≤ most ∧ most ≤ 9223372036854775807) (h : getRowF b at_ most = (p, x, q)) :
    Calls Try.prog 37 #[.slice A n c, .int .i64 at_, .int .i64 most] w fun e w' => ∃ A' c', e = .returned (.tuple #[.slice A' p.length c', .int .i64 x, .int .i64 q]) ∧ OwnB w' w.heap.size A' p.length c' p ∧ Below w.heap.size w w' := by
  have C := getRow_any A n c b at_ most w hb ha hm
  rw [h] at C
  exact C
theorem count_is {n : Int} {p : List Int} (w : World) (hn : 0 ≤ n ∧ n < 18446744073709551616) (h : countF n = p) :
    Calls Try.prog 49 #[.int .u64 n] w fun e w' => ∃ A c, e = .returned (.slice A p.length c) ∧ OwnB w' w.heap.size A p.length c p ∧ Below w.heap.size w w' := by
  have C := count_any n w hn
  rw [h] at C
  exact C
theorem same_is {A : Option Addr} {n c : Nat} {xs : List Int} {B : Option Addr} {m d : Nat} {ys : List Int} {w : World} {r : Bool} (hA : RdN w .u8 A n xs) (hB : RdN w .u8 B m ys) (hn : n ≤ 9223372036854775807) (h : decide (xs = ys) = r) :
    Calls Try.prog 13 #[.slice A n c, .slice B m d] w fun e w' => e = .returned (.bool r) ∧ Below w.heap.size w w' := by
  have C := same_any A n c xs B m d ys w hA hB hn
  rw [h] at C
  exact C
/-- bytes that a literal lays -/
theorem arg_lit (w : World) (xs : List Int) (m : Nat) (hl : m ≤ 140737488355328) (hs : xs.length = m) (hB : IsB xs) : Arg (w.alloc (.cells (ns .u8 xs).toArray 5)) (some ⟨w.heap.size, 0, none⟩) m m xs :=
  ⟨(OwnN.lit (base := 0) (e := 5) (k := .u8) w xs m (Nat.zero_le _) (by unfold maxLen; omega) hs).rd, hB, Nat.le_refl _, by unfold maxLen; omega, hl⟩
theorem rd_lit (w : World) (xs : List Int) (m : Nat) (hl : m ≤ 140737488355328) (hs : xs.length = m) : RdN (w.alloc (.cells (ns .u8 xs).toArray 5)) .u8 (some ⟨w.heap.size, 0, none⟩) m xs :=
  (OwnN.lit (base := 0) (e := 5) (k := .u8) w xs m (Nat.zero_le _) (by unfold maxLen; omega) hs).rd
theorem isB_dec {xs : List Int} (h : xs.all (fun x => decide (0 ≤ x ∧ x ≤ 255)) = true) : IsB xs := by
  intro x hx
  have := List.all_eq_true.1 h x hx
  exact of_decide_eq_true this
theorem belA {B : Nat} {a w : World} (h : Below B a w) (o : Obj) (hB : B ≤ a.heap.size) : Below B a (w.alloc o) := h.alloc (Nat.le_trans hB h.size) o


theorem rput_is {n m : Int} {p : List Int} {q : Int} (w : World) (hn : 0 ≤ n ∧ n < 18446744073709551616) (h : putF n m = (p, q)) :
    Calls Try.prog 52 #[.int .u64 n, .int .i64 m] w fun e w' => ∃ A c, e = .returned (.tuple #[.slice A p.length c, .int .i64 q]) ∧ OwnB w' w.heap.size A p.length c p ∧ Below w.heap.size w w' := by
  have C := rput_any n m w hn
  rw [h] at C
  exact C
theorem rget_is {A : Option Addr} {n c : Nat} {b : List Int} {at_ k v q : Int} {w : World} (hb : Arg w A n c b) (ha : -9223372036854775808 ≤ at_ ∧ at_ ≤ 9223372036854775807) (hk : -9223372036854775808 ≤ k ∧ k ≤ 9223372036854775807) (h : getF b at_ k = (v, q)) :
    Calls Try.prog 45 #[.slice A n c, .int .i64 at_, .int .i64 k] w fun e w' => e = .returned (.tuple #[.int .u64 v, .int .i64 q]) ∧ Below w.heap.size w w' := by
  have C := rget_any A n c b at_ k w hb ha hk
  rw [h] at C
  exact C
theorem part_is {A : Option Addr} {n c : Nat} {b p : List Int} {at_ k q : Int} {w : World} (hb : Arg w A n c b) (ha : -9223372036854775808 ≤ at_ ∧ at_ ≤ 9223372036854775807) (hk : -9223372036854775808 ≤ k ∧ k ≤ 9223372036854775807) (h : partF b at_ k = (p, q)) :
    Calls Try.prog 43 #[.slice A n c, .int .i64 at_, .int .i64 k] w fun e w' => ∃ A' c', e = .returned (.tuple #[.slice A' p.length c', .int .i64 q]) ∧ OwnB w' w.heap.size A' p.length c' p ∧ Below w.heap.size w w' := by
  have C := part_any A n c b at_ k w hb ha hk
  rw [h] at C
  exact C
theorem rpart_is {A : Option Addr} {n c : Nat} {b p : List Int} {at_ k q : Int} {w : World} (hb : Arg w A n c b) (ha : -9223372036854775808 ≤ at_ ∧ at_ ≤ 9223372036854775807) (hk : -9223372036854775808 ≤ k ∧ k ≤ 9223372036854775807) (h : partF b at_ k = (p, q)) :
    Calls Try.prog 44 #[.slice A n c, .int .i64 at_, .int .i64 k] w fun e w' => ∃ A' c', e = .returned (.tuple #[.slice A' p.length c', .int .i64 q]) ∧ OwnB w' w.heap.size A' p.length c' p ∧ Below w.heap.size w w' := by
  have C := rpart_any A n c b at_ k w hb ha hk
  rw [h] at C
  exact C
theorem rgetCount_is {A : Option Addr} {n c : Nat} {b : List Int} {at_ v x q : Int} {w : World} (hb : Arg w A n c b) (ha : -9223372036854775808 ≤ at_ ∧ at_ ≤ 9223372036854775807) (h : getCountF b at_ = (v, x, q)) :
    Calls Try.prog 55 #[.slice A n c, .int .i64 at_] w fun e w' => e = .returned (.tuple #[.int .u64 v, .int .i64 x, .int .i64 q]) ∧ Below w.heap.size w w' := by
  have C := rgetCount_any A n c b at_ w hb ha
  rw [h] at C
  exact C
theorem rgetRow_is {A : Option Addr} {n c : Nat} {b : List Int} {at_ most x q : Int} {p : List Int} {w : World} (hb : Arg w A n c b) (ha : -9223372036854775808 ≤ at_ ∧ at_ ≤ 9223372036854775807) (hm : -9223372036854775808 ≤ most ∧ most ≤ 9223372036854775807) (h : getRowF b at_ most = (p, x, q)) :
    Calls Try.prog 46 #[.slice A n c, .int .i64 at_, .int .i64 most] w fun e w' => ∃ A' c', e = .returned (.tuple #[.slice A' p.length c', .int .i64 x, .int .i64 q]) ∧ OwnB w' w.heap.size A' p.length c' p ∧ Below w.heap.size w w' := by
  have C := rgetRow_any A n c b at_ most w hb ha hm
  rw [h] at C
  exact C

/-- what a row's text is told of bytes that came in -/
def Row8 (w : World) (a : Option Addr) (len cap : Nat) (zs : List Int) : Prop :=
  ((a = none ∧ len = 0 ∧ cap = 0 ∧ zs = []) ∨
  ∃ x, a = some x ∧ len ≤ cap ∧ cap ≤ maxLen ∧ zs.length = cap ∧ (∀ i, i < zs.length → w.cell? (x.add i) = some (.int .u8 (zs.getD i 0))) ∧ ∀ n ∈ zs, (Lit.int .u8 n).wf = true) ∧ cap ≤ 140737488351232
theorem bd8 {n : Int} (h : (Lit.int .u8 n).wf = true) : 0 ≤ n ∧ n ≤ 255 := by
  have h1 : IntKind.u8.min = 0 := rfl
  have h2 : IntKind.u8.max = 255 := rfl
  simp only [Lit.wf, Bool.and_eq_true, decide_eq_true_eq] at h
  omega
theorem bd64 {n : Int} (h : (Lit.int .i64 n).wf = true) : -9223372036854775808 ≤ n ∧ n ≤ 9223372036854775807 := by
  have h1 : IntKind.i64.min = -9223372036854775808 := rfl
  have h2 : IntKind.i64.max = 9223372036854775807 := rfl
  simp only [Lit.wf, Bool.and_eq_true, decide_eq_true_eq] at h
  omega
theorem bdu64 {n : Int} (h : (Lit.int .u64 n).wf = true) : 0 ≤ n ∧ n < 18446744073709551616 := by
  have h1 : IntKind.u64.min = 0 := rfl
  have h2 : IntKind.u64.max = 18446744073709551615 := rfl
  simp only [Lit.wf, Bool.and_eq_true, decide_eq_true_eq] at h
  omega
theorem Row8.arg {w : World} {a : Option Addr} {len cap : Nat} {zs : List Int} (h : Row8 w a len cap zs) : Arg w a len cap (zs.take len) ∧ cap ≤ 140737488351232 := by
  obtain ⟨h, hc⟩ := h
  refine ⟨?_, hc⟩
  rcases h with ⟨rfl, rfl, rfl, rfl⟩ | ⟨x, rfl, hl, hm, hz, hcell, hwf⟩
  · exact ⟨RdN.nil _ _ _, IsB.nil, Nat.le_refl _, Nat.zero_le _, Nat.zero_le _⟩
  · refine ⟨⟨by rw [ns_length, List.length_take]; omega, fun hn => ⟨x, rfl, ?_, ?_⟩⟩, fun n hn => bd8 (hwf n (List.mem_of_mem_take hn)), hl, hm, by omega⟩
    · have := World.block_lt_of_cell? w _ (hcell 0 (by omega))
      rw [block_add] at this
      exact this
    · intro j u hu
      have hj : j < len := by
        have := (List.getElem?_eq_some_iff.1 hu).1
        rw [ns_length, List.length_take] at this
        omega
      rw [ns_get _ _ _ (by rw [List.length_take]; omega)] at hu
      rw [hcell j (by omega), ← hu]
      congr 2
      rw [List.getD_eq_getElem?_getD, List.getD_eq_getElem?_getD, List.getElem?_take_of_lt hj]



theorem getRowF_len (b : List Int) (at_ most : Int) : (getRowF b at_ most).1.length ≤ b.length := by
  unfold getRowF
  split
  · split
    · simp
    · split
      · rename_i h
        obtain ⟨h1, h2, h3, h4⟩ := partF_ok h
        rw [h4]
        simp only [List.length_take, List.length_drop]; omega
      · simp
  · simp


theorem getRowF_err {b : List Int} {at_ most : Int} (h : (getRowF b at_ most).2.2 ≠ 0) : (getRowF b at_ most).1 = [] := by
  unfold getRowF at *
  split
  · rename_i h1
    split
    · rfl
    · rename_i h2
      split
      · rename_i h3
        rw [if_pos h1, if_neg h2, if_pos h3] at h
        exact absurd rfl h
      · rfl
  · rfl
/-- what a wide copy is, as bytes to read -/
theorem wide_arg {w : World} {base n : Nat} {A : Option Addr} {b : List Int} (h : OwnN w base 5 .u8 A (n + 3) (n + 3) (b ++ [7, 7, 7])) (hB : IsB b) (hl : b.length = n) (hn : n ≤ 140737488355328) : Arg w A n (n + 3) b := by
  have hs := (Own.short h (k := n) (by omega)).rd
  rw [Nat.mul_one, show ns .u8 (b ++ [7, 7, 7]) = ns .u8 b ++ ns .u8 [7, 7, 7] from ns_append _ _ _, List.take_append_of_le_length (by rw [ns_length]; omega), List.take_of_length_le (by rw [ns_length]; omega)] at hs
  exact ⟨hs, hB, by omega, by unfold maxLen; omega, hn⟩


theorem RdN.pre {w : World} {k : IntKind} {A : Option Addr} {n : Nat} {xs : List Int} (h : RdN w k A n xs) {p : Nat} (hp : p ≤ n) : RdN w k A p (xs.take p) := by
  have h0 := RdN.sub h (lo := 0) (m := p) (by omega)
  rw [List.drop_zero] at h0
  rcases A with _ | a
  · exact h0
  · have e : a.add 0 = a := by unfold Addr.add; simp
    simp only [Option.map_some, e] at h0
    exact h0
theorem keep1 {w w1 w2 : World} {A : Option Addr} {n : Nat} {b : List Int} (h : Below w.heap.size w w1 ∧ RdN w1 .u8 A n b) (k : Below w1.heap.size w1 w2) : Below w.heap.size w w2 ∧ RdN w2 .u8 A n b := ⟨bThen h.1 k, h.2.below k⟩

theorem grown_cell {w w' : World} {row : Option Nat} (hg : w.grownBy w' row) {a : Addr} {v : Value} (hc : w.cell? a = some v) (hlt : a.block < w.heap.size) (hne : row ≠ some a.block) : w'.cell? a = some v := by
  rw [← hc]
  exact World.cell?_of_block (hg.block _ hlt fun e => hne e.symm)
theorem box_cell (w : World) (cs : Array Value) (t : TypeId) (o : Obj) (j : Nat) : ((w.alloc (.cells cs t)).alloc o).cell? ⟨w.heap.size, j, none⟩ = cs[j]? := by
  refine cell_of_row _ _ _ _ t (0, 0) ?_
  rw [Below.heap_alloc (w.alloc (.cells cs t)) o _ (by simp)]
  exact heap_alloc_new w _
theorem rd_lit2 (w : World) (o : Obj) (xs : List Int) (m : Nat) (hl : m ≤ 140737488355328) (hs : xs.length = m) : RdN ((w.alloc o).alloc (.cells (ns .u8 xs).toArray 5)) .u8 (some ⟨w.heap.size + 1, 0, none⟩) m xs := by
  have h := rd_lit (w.alloc o) xs m hl hs
  have e : (w.alloc o).heap.size = w.heap.size + 1 := by simp
  rw [e] at h
  exact h

theorem run_loadVar_at {P : Program} (w : World) (ad : Addr) (ty : TypeId) (cs : List Value) (d : TypeDesc)
    (hu : P.underlying ty = some d) (hd : (match d with | .struct _ | .array _ _ => true | _ => false) = true) (hi : (P.info? ty).map (·.size) = some cs.length)
    (hc : ∀ j v, cs[j]? = some v → w.cell? (ad.add j) = some v) : (loadVar ty ad).run P w = .ok (.agg cs.toArray) w := by
  have hl : (loadCells ad cs.length).run P w = .ok cs.toArray w := run_loadCells_list (P := P) w ad cs hc
  cases hq : P.info? ty with
  | none => simp [hq] at hi
  | some i =>
    have hs : i.size = cs.length := by simpa [hq] using hi
    have hagg : (isAgg ty).run P w = .ok true w := by
      unfold isAgg
      rw [Sem.run_bind, run_underlying hu w]
      cases d <;> simp_all
    simp [loadVar, Sem.run_bind, hagg, sizeOf, typeInfo, hq, hs, hl]
theorem drop_getD (b : List Int) (p i : Nat) : (b.drop p).getD i 0 = b.getD (p + i) 0 := by
  rw [List.getD_eq_getElem?_getD, List.getD_eq_getElem?_getD, List.getElem?_drop]
theorem part_at (b : List Int) (p q : Nat) (h : p ≤ b.length) : partF b p q = if b.length < p + q then ([], 4) else ((b.drop p).take q, 0) := by
  unfold partF
  rw [if_neg (by omega)]
  by_cases h1 : b.length < p + q
  · rw [if_pos h1, if_pos (by omega)]
  · rw [if_neg h1, if_neg (by omega)]; simp

theorem count_isr {n : Int} {p : List Int} (w : World) (hn : 0 ≤ n ∧ n < 18446744073709551616) (h : countF n = p) :
    Calls Try.prog 53 #[.int .u64 n] w fun e w' => ∃ A c, e = .returned (.slice A p.length c) ∧ OwnB w' w.heap.size A p.length c p ∧ Below w.heap.size w w' := by
  have C := rcount_any n w hn
  rw [h] at C
  exact C
theorem row_is {A : Option Addr} {n c : Nat} {b p : List Int} {w : World} (hb : Arg w A n c b) (h9 : n + 9 ≤ 140737488355328) (h : rowF b = p) :
    Calls Try.prog 34 #[.slice A n c] w fun e w' => ∃ A' c', e = .returned (.slice A' p.length c') ∧ OwnB w' w.heap.size A' p.length c' p ∧ Below w.heap.size w w' := by
  have C := row_any A n c b w hb h9
  rw [h] at C
  exact C
theorem rrow_is {A : Option Addr} {n c : Nat} {b p : List Int} {w : World} (hb : Arg w A n c b) (h9 : n + 9 ≤ 140737488355328) (h : rowF b = p) :
    Calls Try.prog 40 #[.slice A n c] w fun e w' => ∃ A' c', e = .returned (.slice A' p.length c') ∧ OwnB w' w.heap.size A' p.length c' p ∧ Below w.heap.size w w' := by
  have C := rrow_any A n c b w hb h9
  rw [h] at C
  exact C
end Go.Proofs.Ytejablcdpakgoaa
