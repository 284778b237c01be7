/- Words for memory: a slice that reads as a list of cells; a slice that owns its row; what append, make and a store leave of them. For whatever program. -/
import Derived.WalkKit
import Derived.WalkLawsBesides
import Derived.WalkSpells
import Derived.Deep.QuietTactic
import Derived.BigQuiet
import Derived.Deep.Draws
import Derived.Lib.Hide
namespace Go.Proofs.Ytejablcdpakgoaa
open Go.RowKit Go.Proofs
set_option linter.unusedVariables false
set_option linter.unusedSimpArgs false

/-- a goal at which the walk is to stand -/
def Stop (p : Prop) : Prop := p
theorem Stop.mk {p : Prop} (h : Stop p) : p := h
theorem Stop.out {p : Prop} (h : p) : Stop p := h

theorem block_add (a : Addr) (n : Nat) : (a.add n).block = a.block := by unfold Addr.add; split <;> rfl
theorem add_add (a : Addr) (i j : Nat) : (a.add i).add j = a.add (i + j) := by
  unfold Addr.add
  by_cases hi : i = 0 <;> by_cases hj : j = 0 <;> simp [hi, hj, Nat.add_assoc]
theorem add_new (g i : Nat) : (⟨g, 0, none⟩ : Addr).add i = ⟨g, i, none⟩ := by
  unfold Addr.add; split <;> simp_all

theorem belN {B : Nat} {a w : World} (h : Below B a w) (n : Nat) : Below B a (w.drewN n) := ⟨h.os, h.tape, h.output, h.size, h.block⟩
/-- the usual step: nothing that was there at the call has turned -/
theorem bThen {a b c : World} (h : Below a.heap.size a b) (k : Below b.heap.size b c) : Below a.heap.size a c := h.trans (k.mono h.size)

/-- The slice of address A and of n elements of 'size' cells reads as the cells cs. -/
def Rd (w : World) (size : Nat) (A : Option Addr) (n : Nat) (cs : List Value) : Prop :=
  cs.length = n * size ∧ (0 < n → ∃ ad, A = some ad ∧ ad.block < w.heap.size ∧ ∀ j u, cs[j]? = some u → w.cell? (ad.add j) = some u)

section
variable {w w' : World} {size n : Nat} {A : Option Addr} {cs : List Value}
theorem Rd.keep (h : Rd w size A n cs) (hz : w.heap.size ≤ w'.heap.size) (hk : ∀ k, k < w.heap.size → (∀ ad, A = some ad → k = ad.block → w'.heap[k]? = w.heap[k]?)) : Rd w' size A n cs := by
  refine ⟨h.1, fun hn => ?_⟩
  obtain ⟨ad, e, hb, hc⟩ := h.2 hn
  refine ⟨ad, e, Nat.lt_of_lt_of_le hb hz, fun j u hu => ?_⟩
  rw [← hc j u hu]
  exact World.cell?_of_block (by rw [block_add]; exact hk _ hb ad e rfl)
theorem Rd.below (h : Rd w size A n cs) (hb : Below w.heap.size w w') : Rd w' size A n cs :=
  h.keep hb.size fun k hk _ _ _ => hb.block k hk
theorem Rd.alloc (h : Rd w size A n cs) (o : Obj) : Rd (w.alloc o) size A n cs := h.below ((Below.refl _ _).alloc (Nat.le_refl _) o)
theorem Rd.drew (h : Rd w size A n cs) : Rd w.drew size A n cs := h
theorem Rd.drewN (h : Rd w size A n cs) (k : Nat) : Rd (w.drewN k) size A n cs := h
theorem Rd.nil (w : World) (size : Nat) (A : Option Addr) : Rd w size A 0 [] := ⟨by simp, fun h => absurd h (by omega)⟩
theorem Rd.at_ (h : Rd w size A n cs) {k : Nat} (hk : k < n) : ∃ ad, A = some ad ∧ ad.block < w.heap.size ∧ ∀ i, i < size → w.cell? (ad.add (k * size + i)) = cs[k * size + i]? := by
  obtain ⟨ad, e, hb, hc⟩ := h.2 (by omega)
  refine ⟨ad, e, hb, fun i hi => ?_⟩
  have hl : k * size + i < cs.length := by
    rw [h.1]
    calc k * size + i < k * size + size := by omega
      _ = (k + 1) * size := by rw [Nat.add_mul, Nat.one_mul]
      _ ≤ n * size := Nat.mul_le_mul_right _ hk
  rw [List.getElem?_eq_getElem hl]
  exact hc _ _ (List.getElem?_eq_getElem hl)
theorem Rd.one (h : Rd w 1 A n cs) {k : Nat} (hk : k < n) : ∃ ad, A = some ad ∧ ad.block < w.heap.size ∧ w.cell? (ad.add k) = cs[k]? := by
  obtain ⟨ad, e, hb, hc⟩ := h.at_ hk
  have := hc 0 (by omega)
  simp only [Nat.mul_one, Nat.add_zero] at this
  exact ⟨ad, e, hb, this⟩
/-- a cut reads as the part -/
theorem Rd.cut (h : Rd w size A n cs) {lo hi cap : Nat} (h1 : lo ≤ hi) (h2 : hi ≤ n) (hc : n ≤ cap) : Rd w size (if cap = lo then A else A.map (·.add (lo * size))) (hi - lo) ((cs.drop (lo * size)).take ((hi - lo) * size)) := by
  refine ⟨?_, fun hn => ?_⟩
  · rw [List.length_take, List.length_drop, h.1, ← Nat.sub_mul]
    exact Nat.min_eq_left (Nat.mul_le_mul_right _ (by omega))
  · obtain ⟨ad, rfl, hb, hcell⟩ := h.2 (by omega)
    rw [if_neg (by omega)]
    refine ⟨ad.add (lo * size), rfl, by rw [block_add]; exact hb, fun j u hu => ?_⟩
    rw [add_add]
    refine hcell _ u ?_
    rw [List.getElem?_take] at hu
    split at hu
    · rw [← hu, List.getElem?_drop]
    · cases hu
end

/-- The slice (A, n, c) owns a row of its own, from block 'base' on, whose first cells are cs, and all of whose cells are such as G says; or is nil. -/
def Own (w : World) (base : Nat) (e : TypeId) (size : Nat) (G : Value → Prop) (A : Option Addr) (n c : Nat) (cs : List Value) : Prop :=
  cs.length = n * size ∧ ((A = none ∧ n = 0 ∧ c = 0) ∨
    ∃ g cur, A = some ⟨g, 0, none⟩ ∧ base ≤ g ∧ w.heap[g]? = some (.cells cur e (0, 0)) ∧ n ≤ c ∧ c ≤ maxLen ∧ cur.size = c * size ∧ cur.toList.take (n * size) = cs ∧ ∀ u ∈ cur.toList, G u)

/-- the block of an address -/
def blk (A : Option Addr) : Option Nat := A.map (·.block)

section
variable {w w' : World} {base : Nat} {e : TypeId} {size : Nat} {G : Value → Prop} {A : Option Addr} {n c : Nat} {cs : List Value}
theorem Own.nil (w : World) (base : Nat) (e : TypeId) (size : Nat) (G : Value → Prop) : Own w base e size G none 0 0 [] := ⟨by simp, .inl ⟨rfl, rfl, rfl⟩⟩
theorem Own.lt (h : Own w base e size G A n c cs) : ∀ k, blk A = some k → base ≤ k ∧ k < w.heap.size := by
  intro k hk
  rcases h.2 with ⟨rfl, _⟩ | ⟨g, cur, rfl, hb, hg, _⟩
  · simp [blk] at hk
  · simp [blk] at hk
    subst hk
    exact ⟨hb, (Array.getElem?_eq_some_iff.1 hg).1⟩
theorem Own.keep (h : Own w base e size G A n c cs) (hk : ∀ k, blk A = some k → w'.heap[k]? = w.heap[k]?) : Own w' base e size G A n c cs := by
  refine ⟨h.1, ?_⟩
  rcases h.2 with hn | ⟨g, cur, rfl, hb, hg, rest⟩
  · exact .inl hn
  · exact .inr ⟨g, cur, rfl, hb, (hk g (by simp [blk])).trans hg, rest⟩
theorem Own.below (h : Own w base e size G A n c cs) (hb : Below w.heap.size w w') : Own w' base e size G A n c cs :=
  h.keep fun k hk => hb.block k (h.lt k hk).2
theorem Own.grown (h : Own w base e size G A n c cs) {row : Option Nat} (hg : w.grownBy w' row) (hne : ∀ k, blk A = some k → row ≠ some k) : Own w' base e size G A n c cs :=
  h.keep fun k hk => hg.block k (h.lt k hk).2 (fun e => hne k hk e.symm)
theorem Own.alloc (h : Own w base e size G A n c cs) (o : Obj) : Own (w.alloc o) base e size G A n c cs := h.below ((Below.refl _ _).alloc (Nat.le_refl _) o)
theorem Own.drew (h : Own w base e size G A n c cs) : Own w.drew base e size G A n c cs := h
theorem Own.drewN (h : Own w base e size G A n c cs) (k : Nat) : Own (w.drewN k) base e size G A n c cs := h
theorem Own.setOther (h : Own w base e size G A n c cs) {p : Addr} (hp : blk A ≠ some p.block) (u : Value) : Own (w.setCell p u) base e size G A n c cs :=
  h.keep fun k hk => Below.heap_setCell _ _ _ _ (fun e => hp (by rw [hk, e]))
theorem Own.mono (h : Own w base e size G A n c cs) {base' : Nat} (hb : base' ≤ base) : Own w base' e size G A n c cs := by
  refine ⟨h.1, ?_⟩
  rcases h.2 with hn | ⟨g, cur, rfl, hb', rest⟩
  · exact .inl hn
  · exact .inr ⟨g, cur, rfl, Nat.le_trans hb hb', rest⟩
theorem Own.weak (h : Own w base e size G A n c cs) {G' : Value → Prop} (hG : ∀ u, G u → G' u) : Own w base e size G' A n c cs := by
  refine ⟨h.1, ?_⟩
  rcases h.2 with hn | ⟨g, cur, rfl, hb, hg, h1, h2, h3, h4, h5⟩
  · exact .inl hn
  · exact .inr ⟨g, cur, rfl, hb, hg, h1, h2, h3, h4, fun u hu => hG u (h5 u hu)⟩
theorem Own.len_cap (h : Own w base e size G A n c cs) : n ≤ c ∧ c ≤ maxLen := by
  rcases h.2 with ⟨_, h1, h2⟩ | ⟨g, cur, rfl, hb, hg, h1, h2, _⟩
  · subst h1 h2; exact ⟨Nat.le_refl _, Nat.zero_le _⟩
  · exact ⟨h1, h2⟩
theorem Own.cells (h : Own w base e size G A n c cs) {ad : Addr} (hA : A = some ad) : ∀ j u, cs[j]? = some u → w.cell? (ad.add j) = some u := by
  intro j u hu
  rcases h.2 with ⟨rfl, _⟩ | ⟨g, cur, rfl, _, hg, _, _, _, htake, _⟩
  · cases hA
  · injection hA with hA
    subst hA
    rw [add_new, cell_of_row w g j cur e (0, 0) hg]
    rw [← htake, List.getElem?_take] at hu
    split at hu
    · simpa using hu
    · cases hu
theorem Own.rd (h : Own w base e size G A n c cs) : Rd w size A n cs := by
  refine ⟨h.1, fun hn => ?_⟩
  rcases h.2 with ⟨_, h0, _⟩ | ⟨g, cur, hA, _, hg, _⟩
  · omega
  · exact ⟨_, hA, (Array.getElem?_eq_some_iff.1 hg).1, h.cells hA⟩
/-- a row that has just been laid -/
theorem Own.laid (w : World) (xs : Array Value) (m k : Nat) (hb : base ≤ w.heap.size) (hm : k ≤ m) (hl : m ≤ maxLen) (hs : xs.size = m * size) (hG : ∀ u ∈ xs.toList, G u) :
    Own (w.alloc (.cells xs e)) base e size G (some ⟨w.heap.size, 0, none⟩) k m (xs.toList.take (k * size)) := by
  refine ⟨?_, .inr ⟨w.heap.size, xs, rfl, hb, heap_alloc_new w _, hm, hl, hs, rfl, hG⟩⟩
  rw [List.length_take, Array.length_toList, hs]
  exact Nat.min_eq_left (Nat.mul_le_mul_right _ hm)
theorem Own.lit (w : World) (xs : Array Value) (m : Nat) (hb : base ≤ w.heap.size) (hl : m ≤ maxLen) (hs : xs.size = m * size) (hG : ∀ u ∈ xs.toList, G u) :
    Own (w.alloc (.cells xs e)) base e size G (some ⟨w.heap.size, 0, none⟩) m m xs.toList := by
  have h := Own.laid (base := base) (e := e) (size := size) (G := G) w xs m m hb (Nat.le_refl _) hl hs hG
  rw [List.take_of_length_le (by rw [Array.length_toList, hs]; exact Nat.le_refl _)] at h
  exact h
/-- one cell of one's own row is written -/
theorem Own.set {g : Nat} (h : Own w base e size G (some ⟨g, 0, none⟩) n c cs) (j : Nat) (u : Value) (hu : G u) :
    Own (w.setCell ⟨g, j, none⟩ u) base e size G (some ⟨g, 0, none⟩) n c (cs.set j u) := by
  rcases h.2 with ⟨h', _⟩ | ⟨g', cur, h', hb, hg, hnc, hcm, hcs, htake, hG⟩
  · cases h'
  · injection h' with h'
    injection h' with h' _ _
    subst h'
    refine ⟨by simpa using h.1, .inr ⟨g, cur.setIfInBounds j u, rfl, hb, heap_setCell_same w g j cur e u hg, hnc, hcm, by simpa using hcs, ?_, ?_⟩⟩
    · rw [Array.toList_setIfInBounds, ← htake, List.take_set]
    · intro v hv
      rw [Array.toList_setIfInBounds] at hv
      rcases List.mem_or_eq_of_mem_set hv with h1 | h1
      · exact hG v h1
      · rw [h1]; exact hu
theorem Own.cap_cell {g : Nat} (h : Own w base e size G (some ⟨g, 0, none⟩) n c cs) (j : Nat) (hj : j < c * size) : ∃ u, w.cell? ⟨g, j, none⟩ = some u ∧ G u ∧ w.frozen? ⟨g, j, none⟩ = false := by
  rcases h.2 with ⟨h', _⟩ | ⟨g', cur, h', hb, hg, hnc, hcm, hcs, htake, hG⟩
  · cases h'
  · injection h' with h'
    injection h' with h' _ _
    subst h'
    have hj' : j < cur.size := by omega
    refine ⟨cur[j], ?_, hG _ (by simp), frozen_of_row w g j cur e hg⟩
    rw [cell_of_row w g j cur e (0, 0) hg]
    exact Array.getElem?_eq_getElem hj'
theorem Own.frozen {g : Nat} (h : Own w base e size G (some ⟨g, 0, none⟩) n c cs) (j : Nat) : w.frozen? ⟨g, j, none⟩ = false := by
  rcases h.2 with ⟨h', _⟩ | ⟨g', cur, h', hb, hg, _⟩
  · cases h'
  · injection h' with h'
    injection h' with h' _ _
    subst h'
    exact frozen_of_row w g j cur e hg
/-- a shorter one of the same row -/
theorem Own.short (h : Own w base e size G A n c cs) {k : Nat} (hk : k ≤ n) : Own w base e size G A k c (cs.take (k * size)) := by
  have hl : (cs.take (k * size)).length = k * size := by
    rw [List.length_take, h.1]; exact Nat.min_eq_left (Nat.mul_le_mul_right _ hk)
  refine ⟨hl, ?_⟩
  rcases h.2 with ⟨h1, h2, h3⟩ | ⟨g, cur, rfl, hb, hg, hnc, hcm, hcs, htake, hG⟩
  · exact .inl ⟨h1, by omega, h3⟩
  · refine .inr ⟨g, cur, rfl, hb, hg, by omega, hcm, hcs, ?_, hG⟩
    rw [← htake, List.take_take, Nat.min_eq_left (Nat.mul_le_mul_right _ hk)]
/-- one's own row and a block of another element's type are two blocks -/
theorem Own.ne_block (h : Own w base e size G A n c cs) {g : Nat} {xs : Array Value} {t : TypeId} {fr : Nat × Nat} (hg : w.heap[g]? = some (.cells xs t fr)) (hne : e ≠ t) : blk A ≠ some g := by
  rcases h.2 with ⟨rfl, _⟩ | ⟨g', cur, rfl, _, hh, _⟩
  · simp [blk]
  · intro he
    have : g' = g := by simpa [blk] using he
    subst this
    rw [hh] at hg
    injection hg with hg
    injection hg with _ ht
    exact hne ht
end

section
variable {P : Program} (w : World)

theorem mem_zero {z : Array Value} {k : Nat} {G : Value → Prop} (hG : ∀ u ∈ z.toList, G u) (hz : 0 < z.size) : ∀ u ∈ (Builtin.zeroCells z k).toList, G u := by
  intro u hu
  unfold Builtin.zeroCells at hu
  simp only [Array.toList_map, List.mem_map] at hu
  obtain ⟨i, _, rfl⟩ := hu
  have hi : i % z.size < z.size := Nat.mod_lt _ hz
  rw [getElem!_pos z _ hi]
  exact hG _ (by simp)

/-- append of whatever reads as 'news' onto what owns its row -/
theorem run_app (base : Nat) (t ty e : TypeId) (i : TypeInfo) (z : Value) (size bytes : Nat) (G : Value → Prop) (ht : P.underlying t = some (.slice e)) (hi : P.info? e = some i) (hz : i.zero = some z)
    (hsize : i.size = size) (hby : i.bytes = bytes) (hzs : z.cells.size = size) (hsz : 0 < size) (hGz : ∀ u ∈ z.cells.toList, G u)
    (A : Option Addr) (n c : Nat) (xs : List Value) (hown : Own w base e size G A n c xs)
    (B : Option Addr) (m d : Nat) (news : List Value) (hr : Rd w size B m news) (h1 : ∀ u ∈ news, u.oneCell' = true) (hGn : ∀ u ∈ news, G u)
    (h63 : n + m ≤ maxLen) (hbytes : (n + m) * bytes ≤ 140737488355328) (hbase : base ≤ w.heap.size) :
    ∃ A' c' w', (Builtin.append_ #[t, t] ty #[.slice A n c, .slice B m d]).run P w = .ok (.slice A' (n + m) c') w' ∧ Own w' base e size G A' (n + m) c' (xs ++ news) ∧ w.grownBy w' (blk A) ∧
      (A' = A ∨ A' = some ⟨w.heap.size, 0, none⟩) := by
  subst hsize
  subst hby
  by_cases hm : m = 0
  · -- nothing is appended
    subst hm
    have hn : news = [] := List.eq_nil_of_length_eq_zero (by simpa using hr.1)
    subst hn
    refine ⟨A, c, w, ?_, by simpa using hown, ⟨rfl, rfl, rfl, Nat.le_refl _, fun _ _ _ => rfl⟩, .inl rfl⟩
    have hnc := hown.len_cap.1
    rcases hown.2 with ⟨rfl, rfl, rfl⟩ | ⟨g, cur, rfl, _⟩
    · cases B with
      | none => simp [Builtin.append_, run_underlying ht, sizeOf, typeInfo, hi, Builtin.lenOf, Builtin.firstCells]
      | some b => simp [Builtin.append_, run_underlying ht, sizeOf, typeInfo, hi, Builtin.lenOf, Builtin.firstCells, loadCells, loadCellsFrom]
    · cases B with
      | none => simp [Builtin.append_, run_underlying ht, sizeOf, typeInfo, hi, Builtin.lenOf, Builtin.firstCells, hnc, storeCells]
      | some b => simp [Builtin.append_, run_underlying ht, sizeOf, typeInfo, hi, Builtin.lenOf, Builtin.firstCells, hnc, storeCells, loadCells, loadCellsFrom]
  · obtain ⟨ad, rfl, _, hcell⟩ := hr.2 (by omega)
    have hl := hr.1
    have hsmall : n + m ≤ 9223372036854775807 := by simp only [maxLen] at h63; omega
    -- a new row
    have hnew : ∀ (old : Nat) (row : Option Nat), old < n + m →
        Own (w.drew.alloc (.cells (xs.toArray ++ news.toArray ++ Builtin.zeroCells z.cells (grownCap w (n + m) old e - (n + m))) e)) base e i.size G (some ⟨w.heap.size, 0, none⟩) (n + m) (grownCap w (n + m) old e) (xs ++ news) ∧
        w.grownBy (w.drew.alloc (.cells (xs.toArray ++ news.toArray ++ Builtin.zeroCells z.cells (grownCap w (n + m) old e - (n + m))) e)) row := by
      intro old row ho
      have hge := grownCap_ge w (n + m) old e
      have hcm := grownCap_le_maxLen w (n + m) old e h63
      have hsizes : (xs.toArray ++ news.toArray ++ Builtin.zeroCells z.cells (grownCap w (n + m) old e - (n + m))).size = grownCap w (n + m) old e * i.size := by
        rw [Array.size_append, Array.size_append, size_zeroCells, hzs]
        simp only [List.size_toArray, hown.1, hl]
        rw [← Nat.add_mul, ← Nat.add_mul]
        congr 1
        omega
      have htk : (xs.toArray ++ news.toArray ++ Builtin.zeroCells z.cells (grownCap w (n + m) old e - (n + m))).toList.take ((n + m) * i.size) = xs ++ news := by
        have hlen : (xs ++ news).length = (n + m) * i.size := by rw [List.length_append, hown.1, hl, Nat.add_mul]
        simp only [Array.toList_append]
        rw [← hlen]
        exact List.take_left
      have h := Own.laid (base := base) (e := e) (size := i.size) (G := G) w.drew _ _ (n + m) hbase hge hcm hsizes (by
        intro u hu
        simp only [Array.toList_append, List.mem_append] at hu
        rcases hu with (hu | hu) | hu
        · rcases hown.2 with ⟨_, h0, _⟩ | ⟨g, cur, _, _, _, _, _, _, htake, hG⟩
          · have : xs = [] := List.eq_nil_of_length_eq_zero (by rw [hown.1, h0, Nat.zero_mul])
            subst this; simp at hu
          · rw [← htake] at hu; exact hG u (List.mem_of_mem_take hu)
        · exact hGn u hu
        · exact mem_zero hGz (by omega) u hu)
      rw [htk] at h
      exact ⟨h, ⟨rfl, rfl, rfl, by simp, fun k hk _ => Below.heap_alloc w.drew _ _ hk⟩⟩
    rcases hown.2 with ⟨rfl, rfl, rfl⟩ | ⟨g, cur, rfl, hbg, hg, hnc, hcm, hcs, htake, hG⟩
    · have hx : xs = [] := List.eq_nil_of_length_eq_zero (by simpa using hown.1)
      subst hx
      have hrun := run_append_nil (P := P) w t ty e i z ht hi hz ad m d news hl hcell (by omega) (by omega) (by have hb := hbytes; simp only [Nat.zero_add] at hb; omega)
      obtain ⟨h2, h3⟩ := hnew 0 (blk none) (by omega)
      simp only [Nat.zero_add, List.nil_append, Array.empty_append] at h2 h3 ⊢
      exact ⟨_, _, _, hrun, h2, h3, .inr rfl⟩
    · by_cases hroom : n + m ≤ c
      · have hfit : n * i.size + news.length ≤ cur.size := by rw [hl, hcs, ← Nat.add_mul]; exact Nat.mul_le_mul_right _ hroom
        have hrun := run_append_room (P := P) w t ty e i ht hi g n c cur hg ad m d news hl hcell h1 hroom hfit
        refine ⟨_, _, _, hrun, ⟨by rw [List.length_append, hown.1, hl, Nat.add_mul], .inr ⟨g, _, rfl, hbg, setRow_heap w g cur _ e _ hg, hroom, hcm, ?_, ?_, ?_⟩⟩, ⟨rfl, rfl, rfl, by simp, fun k _ hk => setRow_other w g k _ (fun e => hk (by simp [blk, e]))⟩, .inl rfl⟩
        · simp only [List.size_toArray, List.length_append, List.length_take, List.length_drop, Array.length_toList]
          omega
        · have hlen : (xs ++ news).length = (n + m) * i.size := by rw [List.length_append, hown.1, hl, Nat.add_mul]
          rw [htake]
          show ((xs ++ news) ++ cur.toList.drop _).take _ = _
          rw [← hlen]
          exact List.take_left
        · intro u hu
          have hu' : u ∈ cur.toList.take (n * i.size) ++ news ++ cur.toList.drop (n * i.size + news.length) := hu
          simp only [List.mem_append] at hu'
          rcases hu' with (hu | hu) | hu
          · exact hG u (List.mem_of_mem_take hu)
          · exact hGn u hu
          · exact hG u (List.mem_of_mem_drop hu)
      · have holds := hown.cells (ad := ⟨g, 0, none⟩) rfl
        have hrun := run_append_grow (P := P) w t ty e i z ht hi hz ⟨g, 0, none⟩ n c xs hown.1 holds ad m d news hl hcell (by omega) (by omega) (growslice_fits (by omega) hbytes)
        obtain ⟨h2, h3⟩ := hnew c (blk (some ⟨g, 0, none⟩)) (by omega)
        exact ⟨_, _, _, hrun, h2, h3, .inr rfl⟩

theorem wpList_app {ops : Array Oper} {rest : List Oper} {o : Oper} {a : Act} {Q : Exit → Act → World → Prop} (hgd : o.guard = none) (s x : Operand) (t : TypeId)
    (ho : o.op = .call { callee := .builtin .append, args := #[s, x], argTypes := #[t, t] })
    (base : Nat) (e : TypeId) (i : TypeInfo) (z : Value) (size bytes : Nat) (G : Value → Prop) (ht : P.underlying t = some (.slice e)) (hi : P.info? e = some i) (hz : i.zero = some z)
    (hsize : i.size = size) (hby : i.bytes = bytes) (hzs : z.cells.size = size) (hsz : 0 < size) (hGz : ∀ u ∈ z.cells.toList, G u)
    (A : Option Addr) (n c : Nat) (xs : List Value) (hs : a.eval s = .slice A n c) (hown : Own w base e size G A n c xs)
    (B : Option Addr) (m d : Nat) (news : List Value) (hx : a.eval x = .slice B m d) (hr : Rd w size B m news) (h1 : ∀ u ∈ news, u.oneCell' = true) (hGn : ∀ u ∈ news, G u)
    (h63 : n + m ≤ maxLen) (hbytes : (n + m) * bytes ≤ 140737488355328) (hbase : base ≤ w.heap.size)
    (h : ∀ A' c' w', Own w' base e size G A' (n + m) c' (xs ++ news) → w.grownBy w' (blk A) → (A' = A ∨ A' = some ⟨w.heap.size, 0, none⟩) → wpList P ops Q rest (a.put o.dst (.slice A' (n + m) c')) w') :
    wpList P ops Q (o :: rest) a w := by
  obtain ⟨A', c', w', hrun, h2, h3, h4⟩ := run_app (P := P) w base t o.type e i z size bytes G ht hi hz hsize hby hzs hsz hGz A n c xs hown B m d news hr h1 hGn h63 hbytes hbase
  refine wpList_plain hgd fun K hK => ?_
  unfold Oper.wp execOp
  simp only [ho, resolve, invoke, builtin, Sem.run_bind, Sem.run_pure, Result.andThen_ok, List.map_toArray, List.map_cons, List.map_nil, hs, hx, hrun]
  exact hK _ _ (h A' c' w' h2 h3 h4)
end


/-! ### rows of numbers -/
def ns (k : IntKind) (xs : List Int) : List Value := xs.map (.int k)
theorem ns_get (k : IntKind) (xs : List Int) (i : Nat) (h : i < xs.length) : (ns k xs)[i]? = some (.int k (xs.getD i 0)) := by
  unfold ns
  rw [List.getElem?_map, List.getD_eq_getElem?_getD, List.getElem?_eq_getElem h]
  rfl
theorem ns_append (k : IntKind) (xs ys : List Int) : ns k (xs ++ ys) = ns k xs ++ ns k ys := by unfold ns; rw [List.map_append]
theorem ns_length (k : IntKind) (xs : List Int) : (ns k xs).length = xs.length := by unfold ns; rw [List.length_map]
/-- some number of the kind -/
def Num (k : IntKind) (u : Value) : Prop := ∃ x : Int, u = .int k x
theorem ns_num (k : IntKind) (xs : List Int) : ∀ u ∈ ns k xs, Num k u := by
  intro u hu
  unfold ns at hu
  rw [List.mem_map] at hu
  obtain ⟨x, _, rfl⟩ := hu
  exact ⟨x, rfl⟩
theorem num_one {k : IntKind} {u : Value} (h : Num k u) : u.oneCell' = true := by obtain ⟨x, rfl⟩ := h; rfl

def RdN (w : World) (k : IntKind) (A : Option Addr) (n : Nat) (xs : List Int) : Prop := Rd w 1 A n (ns k xs)
def OwnN (w : World) (base : Nat) (e : TypeId) (k : IntKind) (A : Option Addr) (n c : Nat) (xs : List Int) : Prop := Own w base e 1 (Num k) A n c (ns k xs)

section
variable {w w' : World} {base : Nat} {e : TypeId} {k : IntKind} {A : Option Addr} {n c : Nat} {xs : List Int}
theorem RdN.len (h : RdN w k A n xs) : xs.length = n := by have := h.1; rw [ns_length] at this; omega
theorem RdN.below (h : RdN w k A n xs) (hb : Below w.heap.size w w') : RdN w' k A n xs := Rd.below h hb
theorem RdN.alloc (h : RdN w k A n xs) (o : Obj) : RdN (w.alloc o) k A n xs := Rd.alloc h o
theorem RdN.drewN (h : RdN w k A n xs) (d : Nat) : RdN (w.drewN d) k A n xs := h
theorem RdN.drew (h : RdN w k A n xs) : RdN w.drew k A n xs := h
theorem RdN.nil (w : World) (k : IntKind) (A : Option Addr) : RdN w k A 0 [] := Rd.nil w 1 A
theorem RdN.at_ (h : RdN w k A n xs) {i : Nat} (hi : i < n) : ∃ ad, A = some ad ∧ ad.block < w.heap.size ∧ w.cell? (ad.add i) = some (.int k (xs.getD i 0)) := by
  obtain ⟨ad, e, hb, hc⟩ := Rd.one h hi
  rw [ns_get k xs i (by rw [h.len]; exact hi)] at hc
  exact ⟨ad, e, hb, hc⟩
theorem RdN.cut (h : RdN w k A n xs) {lo hi cap : Nat} (h1 : lo ≤ hi) (h2 : hi ≤ n) (hc : n ≤ cap) : RdN w k (if cap = lo then A else A.map (·.add lo)) (hi - lo) ((xs.drop lo).take (hi - lo)) := by
  have := Rd.cut h h1 h2 hc
  simp only [Nat.mul_one] at this
  unfold RdN
  rw [show ns k ((xs.drop lo).take (hi - lo)) = ((ns k xs).drop lo).take (hi - lo) from by unfold ns; rw [List.map_take, List.map_drop]]
  exact this
theorem OwnN.len (h : OwnN w base e k A n c xs) : xs.length = n := by have := h.1; rw [ns_length] at this; omega
theorem OwnN.rd (h : OwnN w base e k A n c xs) : RdN w k A n xs := Own.rd h
theorem OwnN.nil (w : World) (base : Nat) (e : TypeId) (k : IntKind) : OwnN w base e k none 0 0 [] := Own.nil w base e 1 _
theorem OwnN.below (h : OwnN w base e k A n c xs) (hb : Below w.heap.size w w') : OwnN w' base e k A n c xs := Own.below h hb
theorem OwnN.alloc (h : OwnN w base e k A n c xs) (o : Obj) : OwnN (w.alloc o) base e k A n c xs := Own.alloc h o
theorem OwnN.drewN (h : OwnN w base e k A n c xs) (d : Nat) : OwnN (w.drewN d) base e k A n c xs := h
theorem OwnN.drew (h : OwnN w base e k A n c xs) : OwnN w.drew base e k A n c xs := h
theorem OwnN.mono (h : OwnN w base e k A n c xs) {base' : Nat} (hb : base' ≤ base) : OwnN w base' e k A n c xs := Own.mono h hb
theorem OwnN.lt (h : OwnN w base e k A n c xs) : ∀ g, blk A = some g → base ≤ g ∧ g < w.heap.size := Own.lt h
theorem OwnN.grown (h : OwnN w base e k A n c xs) {row : Option Nat} (hg : w.grownBy w' row) (hne : ∀ g, blk A = some g → row ≠ some g) : OwnN w' base e k A n c xs := Own.grown h hg hne
theorem OwnN.lit (w : World) (xs : List Int) (m : Nat) (hb : base ≤ w.heap.size) (hl : m ≤ maxLen) (hs : xs.length = m) :
    OwnN (w.alloc (.cells (ns k xs).toArray e)) base e k (some ⟨w.heap.size, 0, none⟩) m m xs := by
  have h := Own.lit (base := base) (e := e) (size := 1) (G := Num k) w (ns k xs).toArray m hb hl (by simp [ns_length, hs]) (by simpa using ns_num k xs)
  exact h
end

theorem info_of {P : Program} {e : TypeId} {x : Option Value × Nat × Nat} (h : (P.info? e).map (fun i => (i.zero, i.size, i.bytes)) = some x) : ∃ i, P.info? e = some i ∧ i.zero = x.1 ∧ i.size = x.2.1 ∧ i.bytes = x.2.2 := by
  cases hi : P.info? e with
  | none => rw [hi] at h; cases h
  | some i => rw [hi] at h; injection h with h; subst h; exact ⟨i, rfl, rfl, rfl, rfl⟩

theorem wpList_appN {P : Program} (w : World) {ops : Array Oper} {rest : List Oper} {o : Oper} {a : Act} {Q : Exit → Act → World → Prop} (hgd : o.guard = none) (s x : Operand) (t : TypeId)
    (ho : o.op = .call { callee := .builtin .append, args := #[s, x], argTypes := #[t, t] })
    (base : Nat) (e : TypeId) (k : IntKind) (bytes : Nat) (ht : P.underlying t = some (.slice e)) (hinf : (P.info? e).map (fun i => (i.zero, i.size, i.bytes)) = some (some (.int k 0), 1, bytes))
    (A : Option Addr) (n c : Nat) (xs : List Int) (hs : a.eval s = .slice A n c) (hown : OwnN w base e k A n c xs)
    (B : Option Addr) (m d : Nat) (ys : List Int) (hx : a.eval x = .slice B m d) (hr : RdN w k B m ys)
    (h63 : n + m ≤ maxLen) (hbytes : (n + m) * bytes ≤ 140737488355328) (hbase : base ≤ w.heap.size)
    (h : ∀ A' c' w', OwnN w' base e k A' (n + m) c' (xs ++ ys) → w.grownBy w' (blk A) → (A' = A ∨ A' = some ⟨w.heap.size, 0, none⟩) → wpList P ops Q rest (a.put o.dst (.slice A' (n + m) c')) w') :
    wpList P ops Q (o :: rest) a w := by
  obtain ⟨i, hi, hz, hsz, hby⟩ := info_of hinf
  refine wpList_app w hgd s x t ho base e i (.int k 0) 1 bytes (Num k) ht hi hz hsz hby rfl (by omega) ?_ A n c (ns k xs) hs hown B m d (ns k ys) hx hr (fun u hu => num_one (ns_num k ys u hu)) (ns_num k ys) h63 hbytes hbase ?_
  · intro u hu
    have : u = .int k 0 := by simpa [Value.cells] using hu
    exact ⟨0, this⟩
  · intro A' c' w' h1 h2 h3
    rw [← ns_append] at h1
    exact h A' c' w' h1 h2 h3

theorem wpList_makeN {P : Program} (w : World) {ops : Array Oper} {rest : List Oper} {o : Oper} {a : Act} {Q : Exit → Act → World → Prop} (hgd : o.guard = none) (x y : Operand) (t : TypeId)
    (ho : o.op = .makeSlice t x y) (base : Nat) (e : TypeId) (k : IntKind) (bytes : Nat) (ht : P.underlying t = some (.slice e)) (hinf : (P.info? e).map (fun i => (i.zero, i.size, i.bytes)) = some (some (.int k 0), 1, bytes))
    (n : Nat) (hx : a.eval x = .int .i64 (n : Int)) (hy : a.eval y = .int .i64 (n : Int)) (hbytes : bytes * n ≤ 281474976710656) (h63 : n ≤ maxLen) (hbase : base ≤ w.heap.size)
    (h : ∀ w', OwnN w' base e k (some ⟨w.heap.size, 0, none⟩) n n (List.replicate n 0) → w.grownBy w' none → wpList P ops Q rest (a.put o.dst (.slice (some ⟨w.heap.size, 0, none⟩) n n)) w') :
    wpList P ops Q (o :: rest) a w := by
  obtain ⟨i, hi, hz, hsz, hby⟩ := info_of hinf
  have h63' : (n : Int) ≤ 9223372036854775807 := by unfold maxLen at h63; omega
  have hr := run_make (P := P) w t e i (.int k 0) ht hi hz .i64 .i64 n n (by omega) (Int.le_refl _) (by rw [hby]; show (bytes : Int) * (n : Int) ≤ _; rw [← Int.natCast_mul]; omega) h63'
  simp only [Int.toNat_natCast, hsz, Nat.mul_one] at hr
  have hl : (madeCells (Value.int k 0).cells n).toList = ns k (List.replicate n 0) := by
    have := toList_madeCells_one (.int k 0) n
    unfold ns
    rw [List.map_replicate]
    exact this
  have hown : OwnN (w.alloc (.cells (madeCells (Value.int k 0).cells n) e)) base e k (some ⟨w.heap.size, 0, none⟩) n n (List.replicate n 0) := by
    have h := Own.lit (base := base) (e := e) (size := 1) (G := Num k) w (madeCells (Value.int k 0).cells n) n hbase h63 (by rw [size_madeCells, Nat.mul_one]) (by rw [hl]; exact ns_num k _)
    rw [hl] at h
    exact h
  refine wpList_plain hgd fun K hK => ?_
  unfold Oper.wp execOp
  simp only [ho, hx, hy, Sem.run_bind, Sem.run_pure, Result.andThen_ok, hr]
  exact hK _ _ (h _ hown (World.grownBy_alloc w _ none))

theorem OwnN.set {w : World} {base : Nat} {e : TypeId} {k : IntKind} {g n c : Nat} {xs : List Int} (h : OwnN w base e k (some ⟨g, 0, none⟩) n c xs) (j : Nat) (x : Int) :
    OwnN (w.setCell ⟨g, j, none⟩ (.int k x)) base e k (some ⟨g, 0, none⟩) n c (xs.set j x) := by
  have := Own.set h j (.int k x) ⟨x, rfl⟩
  unfold OwnN
  rw [show ns k (xs.set j x) = (ns k xs).set j (.int k x) from by unfold ns; rw [List.map_set]]
  exact this
theorem set_fill (xs : List Int) (r : Nat) (x y : Int) (k : Nat) (hk : xs.length = k) (hr : 0 < r) : (xs ++ List.replicate r y).set k x = xs ++ [x] ++ List.replicate (r - 1) y := by
  obtain ⟨r, rfl⟩ : ∃ q, r = q + 1 := ⟨r - 1, by omega⟩
  subst hk
  rw [List.set_append_right _ _ (Nat.le_refl _), Nat.sub_self, List.replicate_succ, List.set_cons_zero]
  simp

theorem Rd.sub {w : World} {size n : Nat} {A : Option Addr} {cs : List Value} (h : Rd w size A n cs) {lo m : Nat} (h2 : lo + m ≤ n) : Rd w size (A.map (·.add (lo * size))) m ((cs.drop (lo * size)).take (m * size)) := by
  refine ⟨?_, fun hn => ?_⟩
  · rw [List.length_take, List.length_drop, h.1, ← Nat.sub_mul]
    exact Nat.min_eq_left (Nat.mul_le_mul_right _ (by omega))
  · obtain ⟨ad, rfl, hb, hcell⟩ := h.2 (by omega)
    refine ⟨ad.add (lo * size), rfl, by rw [block_add]; exact hb, fun j u hu => ?_⟩
    rw [add_add]
    refine hcell _ u ?_
    rw [List.getElem?_take] at hu
    split at hu
    · rw [← hu, List.getElem?_drop]
    · cases hu
theorem RdN.sub {w : World} {k : IntKind} {n : Nat} {A : Option Addr} {xs : List Int} (h : RdN w k A n xs) {lo m : Nat} (h2 : lo + m ≤ n) : RdN w k (A.map (·.add lo)) m ((xs.drop lo).take m) := by
  have := Rd.sub h h2
  simp only [Nat.mul_one] at this
  unfold RdN
  rw [show ns k ((xs.drop lo).take m) = ((ns k xs).drop lo).take m from by unfold ns; rw [List.map_take, List.map_drop]]
  exact this
end Go.Proofs.Ytejablcdpakgoaa
