/- Joined texts: Base, EndsM, EndsA, EndsB, EndsC. -/
import Derived.WalkKit
import Derived.WalkLawsBesides
import Derived.WalkSpells
import Derived.Deep.QuietTactic
import Derived.BigQuiet
import Derived.Deep.Draws
import Derived.Lib.Hide
import Derived.Test.YtofclanljhfkiaaProg
import Derived.WalkSmall
import Derived.Laws.Bits64b
/- Words for memory: a slice that reads as a list of cells; a slice that owns its row; what append, make and a store leave of them. For whatever program. -/
namespace Go.Proofs.Ytofclanljhfkiaa
open Go.RowKit Go.Proofs
set_option linter.unusedVariables false
set_option linter.unusedSimpArgs false
set_option maxRecDepth 20000

/-- a goal at which the walk is to stand -/
def Stop (p : Prop) : Prop := p
theorem Stop.mk {p : Prop} (h : Stop p) : p := h
theorem Stop.out {p : Prop} (h : p) : Stop p := h

theorem block_add (a : Addr) (n : Nat) : (a.add n).block = a.block := by unfold Addr.add; split <;> rfl
theorem add_add (a : Addr) (i j : Nat) : (a.add i).add j = a.add (i + j) := by
  unfold Addr.add
  by_cases hi : i = 0 <;> by_cases hj : j = 0 <;> simp [hi, hj, Nat.add_assoc]
theorem add_new (g i : Nat) : (⟨g, 0, none⟩ : Addr).add i = ⟨g, i, none⟩ := by
  unfold Addr.add; split <;> simp_all

theorem belN {B : Nat} {a w : World} (h : Below B a w) (n : Nat) : Below B a (w.drewN n) := ⟨h.os, h.tape, h.output, h.size, h.block⟩
/-- the usual step: nothing that was there at the call has turned -/
theorem bThen {a b c : World} (h : Below a.heap.size a b) (k : Below b.heap.size b c) : Below a.heap.size a c := h.trans (k.mono h.size)

/-- The slice of address A and of n elements of 'size' cells reads as the cells cs. -/
def Rd (w : World) (size : Nat) (A : Option Addr) (n : Nat) (cs : List Value) : Prop :=
  cs.length = n * size ∧ (0 < n → ∃ ad, A = some ad ∧ ad.block < w.heap.size ∧ ∀ j u, cs[j]? = some u → w.cell? (ad.add j) = some u)

section
variable {w w' : World} {size n : Nat} {A : Option Addr} {cs : List Value}
theorem Rd.keep (h : Rd w size A n cs) (hz : w.heap.size ≤ w'.heap.size) (hk : ∀ k, k < w.heap.size → (∀ ad, A = some ad → k = ad.block → w'.heap[k]? = w.heap[k]?)) : Rd w' size A n cs := by
  refine ⟨h.1, fun hn => ?_⟩
  obtain ⟨ad, e, hb, hc⟩ := h.2 hn
  refine ⟨ad, e, Nat.lt_of_lt_of_le hb hz, fun j u hu => ?_⟩
  rw [← hc j u hu]
  exact World.cell?_of_block (by rw [block_add]; exact hk _ hb ad e rfl)
theorem Rd.below (h : Rd w size A n cs) (hb : Below w.heap.size w w') : Rd w' size A n cs :=
  h.keep hb.size fun k hk _ _ _ => hb.block k hk
theorem Rd.alloc (h : Rd w size A n cs) (o : Obj) : Rd (w.alloc o) size A n cs := h.below ((Below.refl _ _).alloc (Nat.le_refl _) o)
theorem Rd.drew (h : Rd w size A n cs) : Rd w.drew size A n cs := h
theorem Rd.drewN (h : Rd w size A n cs) (k : Nat) : Rd (w.drewN k) size A n cs := h
theorem Rd.nil (w : World) (size : Nat) (A : Option Addr) : Rd w size A 0 [] := ⟨by simp, fun h => absurd h (by omega)⟩
theorem Rd.at_ (h : Rd w size A n cs) {k : Nat} (hk : k < n) : ∃ ad, A = some ad ∧ ad.block < w.heap.size ∧ ∀ i, i < size → w.cell? (ad.add (k * size + i)) = cs[k * size + i]? := by
  obtain ⟨ad, e, hb, hc⟩ := h.2 (by omega)
  refine ⟨ad, e, hb, fun i hi => ?_⟩
  have hl : k * size + i < cs.length := by
    rw [h.1]
    calc k * size + i < k * size + size := by omega
      _ = (k + 1) * size := by rw [Nat.add_mul, Nat.one_mul]
      _ ≤ n * size := Nat.mul_le_mul_right _ hk
  rw [List.getElem?_eq_getElem hl]
  exact hc _ _ (List.getElem?_eq_getElem hl)
theorem Rd.one (h : Rd w 1 A n cs) {k : Nat} (hk : k < n) : ∃ ad, A = some ad ∧ ad.block < w.heap.size ∧ w.cell? (ad.add k) = cs[k]? := by
  obtain ⟨ad, e, hb, hc⟩ := h.at_ hk
  have := hc 0 (by omega)
  simp only [Nat.mul_one, Nat.add_zero] at this
  exact ⟨ad, e, hb, this⟩
/-- a cut reads as the part -/
theorem Rd.cut (h : Rd w size A n cs) {lo hi cap : Nat} (h1 : lo ≤ hi) (h2 : hi ≤ n) (hc : n ≤ cap) : Rd w size (if cap = lo then A else A.map (·.add (lo * size))) (hi - lo) ((cs.drop (lo * size)).take ((hi - lo) * size)) := by
  refine ⟨?_, fun hn => ?_⟩
  · rw [List.length_take, List.length_drop, h.1, ← Nat.sub_mul]
    exact Nat.min_eq_left (Nat.mul_le_mul_right _ (by omega))
  · obtain ⟨ad, rfl, hb, hcell⟩ := h.2 (by omega)
    rw [if_neg (by omega)]
    refine ⟨ad.add (lo * size), rfl, by rw [block_add]; exact hb, fun j u hu => ?_⟩
    rw [add_add]
    refine hcell _ u ?_
    rw [List.getElem?_take] at hu
    split at hu
    · rw [← hu, List.getElem?_drop]
    · cases hu
end

/-- The slice (A, n, c) owns a row of its own, from block 'base' on, whose first cells are cs, and all of whose cells are such as G says; or is nil. -/
def Own (w : World) (base : Nat) (e : TypeId) (size : Nat) (G : Value → Prop) (A : Option Addr) (n c : Nat) (cs : List Value) : Prop :=
  cs.length = n * size ∧ ((A = none ∧ n = 0 ∧ c = 0) ∨
    ∃ g cur, A = some ⟨g, 0, none⟩ ∧ base ≤ g ∧ w.heap[g]? = some (.cells cur e (0, 0)) ∧ n ≤ c ∧ c ≤ maxLen ∧ cur.size = c * size ∧ cur.toList.take (n * size) = cs ∧ ∀ u ∈ cur.toList, G u)

/-- the block of an address -/
def blk (A : Option Addr) : Option Nat := A.map (·.block)

section
variable {w w' : World} {base : Nat} {e : TypeId} {size : Nat} {G : Value → Prop} {A : Option Addr} {n c : Nat} {cs : List Value}
theorem Own.nil (w : World) (base : Nat) (e : TypeId) (size : Nat) (G : Value → Prop) : Own w base e size G none 0 0 [] := ⟨by simp, .inl ⟨rfl, rfl, rfl⟩⟩
theorem Own.lt (h : Own w base e size G A n c cs) : ∀ k, blk A = some k → base ≤ k ∧ k < w.heap.size := by
  intro k hk
  rcases h.2 with ⟨rfl, _⟩ | ⟨g, cur, rfl, hb, hg, _⟩
  · simp [blk] at hk
  · simp [blk] at hk
    subst hk
    exact ⟨hb, (Array.getElem?_eq_some_iff.1 hg).1⟩
theorem Own.keep (h : Own w base e size G A n c cs) (hk : ∀ k, blk A = some k → w'.heap[k]? = w.heap[k]?) : Own w' base e size G A n c cs := by
  refine ⟨h.1, ?_⟩
  rcases h.2 with hn | ⟨g, cur, rfl, hb, hg, rest⟩
  · exact .inl hn
  · exact .inr ⟨g, cur, rfl, hb, (hk g (by simp [blk])).trans hg, rest⟩
theorem Own.below (h : Own w base e size G A n c cs) (hb : Below w.heap.size w w') : Own w' base e size G A n c cs :=
  h.keep fun k hk => hb.block k (h.lt k hk).2
theorem Own.grown (h : Own w base e size G A n c cs) {row : Option Nat} (hg : w.grownBy w' row) (hne : ∀ k, blk A = some k → row ≠ some k) : Own w' base e size G A n c cs :=
  h.keep fun k hk => hg.block k (h.lt k hk).2 (fun e => hne k hk e.symm)
theorem Own.alloc (h : Own w base e size G A n c cs) (o : Obj) : Own (w.alloc o) base e size G A n c cs := h.below ((Below.refl _ _).alloc (Nat.le_refl _) o)
theorem Own.drew (h : Own w base e size G A n c cs) : Own w.drew base e size G A n c cs := h
theorem Own.drewN (h : Own w base e size G A n c cs) (k : Nat) : Own (w.drewN k) base e size G A n c cs := h
theorem Own.setOther (h : Own w base e size G A n c cs) {p : Addr} (hp : blk A ≠ some p.block) (u : Value) : Own (w.setCell p u) base e size G A n c cs :=
  h.keep fun k hk => Below.heap_setCell _ _ _ _ (fun e => hp (by rw [hk, e]))
theorem Own.mono (h : Own w base e size G A n c cs) {base' : Nat} (hb : base' ≤ base) : Own w base' e size G A n c cs := by
  refine ⟨h.1, ?_⟩
  rcases h.2 with hn | ⟨g, cur, rfl, hb', rest⟩
  · exact .inl hn
  · exact .inr ⟨g, cur, rfl, Nat.le_trans hb hb', rest⟩
theorem Own.weak (h : Own w base e size G A n c cs) {G' : Value → Prop} (hG : ∀ u, G u → G' u) : Own w base e size G' A n c cs := by
  refine ⟨h.1, ?_⟩
  rcases h.2 with hn | ⟨g, cur, rfl, hb, hg, h1, h2, h3, h4, h5⟩
  · exact .inl hn
  · exact .inr ⟨g, cur, rfl, hb, hg, h1, h2, h3, h4, fun u hu => hG u (h5 u hu)⟩
theorem Own.len_cap (h : Own w base e size G A n c cs) : n ≤ c ∧ c ≤ maxLen := by
  rcases h.2 with ⟨_, h1, h2⟩ | ⟨g, cur, rfl, hb, hg, h1, h2, _⟩
  · subst h1 h2; exact ⟨Nat.le_refl _, Nat.zero_le _⟩
  · exact ⟨h1, h2⟩
theorem Own.cells (h : Own w base e size G A n c cs) {ad : Addr} (hA : A = some ad) : ∀ j u, cs[j]? = some u → w.cell? (ad.add j) = some u := by
  intro j u hu
  rcases h.2 with ⟨rfl, _⟩ | ⟨g, cur, rfl, _, hg, _, _, _, htake, _⟩
  · cases hA
  · injection hA with hA
    subst hA
    rw [add_new, cell_of_row w g j cur e (0, 0) hg]
    rw [← htake, List.getElem?_take] at hu
    split at hu
    · simpa using hu
    · cases hu
theorem Own.rd (h : Own w base e size G A n c cs) : Rd w size A n cs := by
  refine ⟨h.1, fun hn => ?_⟩
  rcases h.2 with ⟨_, h0, _⟩ | ⟨g, cur, hA, _, hg, _⟩
  · omega
  · exact ⟨_, hA, (Array.getElem?_eq_some_iff.1 hg).1, h.cells hA⟩
/-- a row that has just been laid -/
theorem Own.laid (w : World) (xs : Array Value) (m k : Nat) (hb : base ≤ w.heap.size) (hm : k ≤ m) (hl : m ≤ maxLen) (hs : xs.size = m * size) (hG : ∀ u ∈ xs.toList, G u) :
    Own (w.alloc (.cells xs e)) base e size G (some ⟨w.heap.size, 0, none⟩) k m (xs.toList.take (k * size)) := by
  refine ⟨?_, .inr ⟨w.heap.size, xs, rfl, hb, heap_alloc_new w _, hm, hl, hs, rfl, hG⟩⟩
  rw [List.length_take, Array.length_toList, hs]
  exact Nat.min_eq_left (Nat.mul_le_mul_right _ hm)
theorem Own.lit (w : World) (xs : Array Value) (m : Nat) (hb : base ≤ w.heap.size) (hl : m ≤ maxLen) (hs : xs.size = m * size) (hG : ∀ u ∈ xs.toList, G u) :
    Own (w.alloc (.cells xs e)) base e size G (some ⟨w.heap.size, 0, none⟩) m m xs.toList := by
  have h := Own.laid (base := base) (e := e) (size := size) (G := G) w xs m m hb (Nat.le_refl _) hl hs hG
  rw [List.take_of_length_le (by rw [Array.length_toList, hs]; exact Nat.le_refl _)] at h
  exact h
/-- one cell of one's own row is written -/
theorem Own.set {g : Nat} (h : Own w base e size G (some ⟨g, 0, none⟩) n c cs) (j : Nat) (u : Value) (hu : G u) :
    Own (w.setCell ⟨g, j, none⟩ u) base e size G (some ⟨g, 0, none⟩) n c (cs.set j u) := by
  rcases h.2 with ⟨h', _⟩ | ⟨g', cur, h', hb, hg, hnc, hcm, hcs, htake, hG⟩
  · cases h'
  · injection h' with h'
    injection h' with h' _ _
    subst h'
    refine ⟨by simpa using h.1, .inr ⟨g, cur.setIfInBounds j u, rfl, hb, heap_setCell_same w g j cur e u hg, hnc, hcm, by simpa using hcs, ?_, ?_⟩⟩
    · rw [Array.toList_setIfInBounds, ← htake, List.take_set]
    · intro v hv
      rw [Array.toList_setIfInBounds] at hv
      rcases List.mem_or_eq_of_mem_set hv with h1 | h1
      · exact hG v h1
      · rw [h1]; exact hu
theorem Own.cap_cell {g : Nat} (h : Own w base e size G (some ⟨g, 0, none⟩) n c cs) (j : Nat) (hj : j < c * size) : ∃ u, w.cell? ⟨g, j, none⟩ = some u ∧ G u ∧ w.frozen? ⟨g, j, none⟩ = false := by
  rcases h.2 with ⟨h', _⟩ | ⟨g', cur, h', hb, hg, hnc, hcm, hcs, htake, hG⟩
  · cases h'
  · injection h' with h'
    injection h' with h' _ _
    subst h'
    have hj' : j < cur.size := by omega
    refine ⟨cur[j], ?_, hG _ (by simp), frozen_of_row w g j cur e hg⟩
    rw [cell_of_row w g j cur e (0, 0) hg]
    exact Array.getElem?_eq_getElem hj'
theorem Own.frozen {g : Nat} (h : Own w base e size G (some ⟨g, 0, none⟩) n c cs) (j : Nat) : w.frozen? ⟨g, j, none⟩ = false := by
  rcases h.2 with ⟨h', _⟩ | ⟨g', cur, h', hb, hg, _⟩
  · cases h'
  · injection h' with h'
    injection h' with h' _ _
    subst h'
    exact frozen_of_row w g j cur e hg
/-- a shorter one of the same row -/
theorem Own.short (h : Own w base e size G A n c cs) {k : Nat} (hk : k ≤ n) : Own w base e size G A k c (cs.take (k * size)) := by
  have hl : (cs.take (k * size)).length = k * size := by
    rw [List.length_take, h.1]; exact Nat.min_eq_left (Nat.mul_le_mul_right _ hk)
  refine ⟨hl, ?_⟩
  rcases h.2 with ⟨h1, h2, h3⟩ | ⟨g, cur, rfl, hb, hg, hnc, hcm, hcs, htake, hG⟩
  · exact .inl ⟨h1, by omega, h3⟩
  · refine .inr ⟨g, cur, rfl, hb, hg, by omega, hcm, hcs, ?_, hG⟩
    rw [← htake, List.take_take, Nat.min_eq_left (Nat.mul_le_mul_right _ hk)]
/-- one's own row and a block of another element's type are two blocks -/
theorem Own.ne_block (h : Own w base e size G A n c cs) {g : Nat} {xs : Array Value} {t : TypeId} {fr : Nat × Nat} (hg : w.heap[g]? = some (.cells xs t fr)) (hne : e ≠ t) : blk A ≠ some g := by
  rcases h.2 with ⟨rfl, _⟩ | ⟨g', cur, rfl, _, hh, _⟩
  · simp [blk]
  · intro he
    have : g' = g := by simpa [blk] using he
    subst this
    rw [hh] at hg
    injection hg with hg
    injection hg with _ ht
    exact hne ht
end

section
variable {P : Program} (w : World)

theorem mem_zero {z : Array Value} {k : Nat} {G : Value → Prop} (hG : ∀ u ∈ z.toList, G u) (hz : 0 < z.size) : ∀ u ∈ (Builtin.zeroCells z k).toList, G u := by
  intro u hu
  unfold Builtin.zeroCells at hu
  simp only [Array.toList_map, List.mem_map] at hu
  obtain ⟨i, _, rfl⟩ := hu
  have hi : i % z.size < z.size := Nat.mod_lt _ hz
  rw [getElem!_pos z _ hi]
  exact hG _ (by simp)

/-- append of whatever reads as 'news' onto what owns its row -/
theorem run_app (base : Nat) (t ty e : TypeId) (i : TypeInfo) (z : Value) (size bytes : Nat) (G : Value → Prop) (ht : P.underlying t = some (.slice e)) (hi : P.info? e = some i) (hz : i.zero = some z)
    (hsize : i.size = size) (hby : i.bytes = bytes) (hzs : z.cells.size = size) (hsz : 0 < size) (hGz : ∀ u ∈ z.cells.toList, G u)
    (A : Option Addr) (n c : Nat) (xs : List Value) (hown : Own w base e size G A n c xs)
    (B : Option Addr) (m d : Nat) (news : List Value) (hr : Rd w size B m news) (h1 : ∀ u ∈ news, u.oneCell' = true) (hGn : ∀ u ∈ news, G u)
    (h63 : n + m ≤ maxLen) (hbytes : (n + m) * bytes ≤ 140737488355328) (hbase : base ≤ w.heap.size) :
    ∃ A' c' w', (Builtin.append_ #[t, t] ty #[.slice A n c, .slice B m d]).run P w = .ok (.slice A' (n + m) c') w' ∧ Own w' base e size G A' (n + m) c' (xs ++ news) ∧ w.grownBy w' (blk A) ∧
      (A' = A ∨ A' = some ⟨w.heap.size, 0, none⟩) := by
  subst hsize
  subst hby
  by_cases hm : m = 0
  · -- nothing is appended
    subst hm
    have hn : news = [] := List.eq_nil_of_length_eq_zero (by simpa using hr.1)
    subst hn
    refine ⟨A, c, w, ?_, by simpa using hown, ⟨rfl, rfl, rfl, Nat.le_refl _, fun _ _ _ => rfl⟩, .inl rfl⟩
    have hnc := hown.len_cap.1
    rcases hown.2 with ⟨rfl, rfl, rfl⟩ | ⟨g, cur, rfl, _⟩
    · cases B with
      | none => simp [Builtin.append_, run_underlying ht, sizeOf, typeInfo, hi, Builtin.lenOf, Builtin.firstCells]
      | some b => simp [Builtin.append_, run_underlying ht, sizeOf, typeInfo, hi, Builtin.lenOf, Builtin.firstCells, loadCells, loadCellsFrom]
    · cases B with
      | none => simp [Builtin.append_, run_underlying ht, sizeOf, typeInfo, hi, Builtin.lenOf, Builtin.firstCells, hnc, storeCells]
      | some b => simp [Builtin.append_, run_underlying ht, sizeOf, typeInfo, hi, Builtin.lenOf, Builtin.firstCells, hnc, storeCells, loadCells, loadCellsFrom]
  · obtain ⟨ad, rfl, _, hcell⟩ := hr.2 (by omega)
    have hl := hr.1
    have hsmall : n + m ≤ 9223372036854775807 := by simp only [maxLen] at h63; omega
    -- a new row
    have hnew : ∀ (old : Nat) (row : Option Nat), old < n + m →
        Own (w.drew.alloc (.cells (xs.toArray ++ news.toArray ++ Builtin.zeroCells z.cells (grownCap w (n + m) old e - (n + m))) e)) base e i.size G (some ⟨w.heap.size, 0, none⟩) (n + m) (grownCap w (n + m) old e) (xs ++ news) ∧
        w.grownBy (w.drew.alloc (.cells (xs.toArray ++ news.toArray ++ Builtin.zeroCells z.cells (grownCap w (n + m) old e - (n + m))) e)) row := by
      intro old row ho
      have hge := grownCap_ge w (n + m) old e
      have hcm := grownCap_le_maxLen w (n + m) old e h63
      have hsizes : (xs.toArray ++ news.toArray ++ Builtin.zeroCells z.cells (grownCap w (n + m) old e - (n + m))).size = grownCap w (n + m) old e * i.size := by
        rw [Array.size_append, Array.size_append, size_zeroCells, hzs]
        simp only [List.size_toArray, hown.1, hl]
        rw [← Nat.add_mul, ← Nat.add_mul]
        congr 1
        omega
      have htk : (xs.toArray ++ news.toArray ++ Builtin.zeroCells z.cells (grownCap w (n + m) old e - (n + m))).toList.take ((n + m) * i.size) = xs ++ news := by
        have hlen : (xs ++ news).length = (n + m) * i.size := by rw [List.length_append, hown.1, hl, Nat.add_mul]
        simp only [Array.toList_append]
        rw [← hlen]
        exact List.take_left
      have h := Own.laid (base := base) (e := e) (size := i.size) (G := G) w.drew _ _ (n + m) hbase hge hcm hsizes (by
        intro u hu
        simp only [Array.toList_append, List.mem_append] at hu
        rcases hu with (hu | hu) | hu
        · rcases hown.2 with ⟨_, h0, _⟩ | ⟨g, cur, _, _, _, _, _, _, htake, hG⟩
          · have : xs = [] := List.eq_nil_of_length_eq_zero (by rw [hown.1, h0, Nat.zero_mul])
            subst this; simp at hu
          · rw [← htake] at hu; exact hG u (List.mem_of_mem_take hu)
        · exact hGn u hu
        · exact mem_zero hGz (by omega) u hu)
      rw [htk] at h
      exact ⟨h, ⟨rfl, rfl, rfl, by simp, fun k hk _ => Below.heap_alloc w.drew _ _ hk⟩⟩
    rcases hown.2 with ⟨rfl, rfl, rfl⟩ | ⟨g, cur, rfl, hbg, hg, hnc, hcm, hcs, htake, hG⟩
    · have hx : xs = [] := List.eq_nil_of_length_eq_zero (by simpa using hown.1)
      subst hx
      have hrun := run_append_nil (P := P) w t ty e i z ht hi hz ad m d news hl hcell (by omega) (by omega) (by have hb := hbytes; simp only [Nat.zero_add] at hb; omega)
      obtain ⟨h2, h3⟩ := hnew 0 (blk none) (by omega)
      simp only [Nat.zero_add, List.nil_append, Array.empty_append] at h2 h3 ⊢
      exact ⟨_, _, _, hrun, h2, h3, .inr rfl⟩
    · by_cases hroom : n + m ≤ c
      · have hfit : n * i.size + news.length ≤ cur.size := by rw [hl, hcs, ← Nat.add_mul]; exact Nat.mul_le_mul_right _ hroom
        have hrun := run_append_room (P := P) w t ty e i ht hi g n c cur hg ad m d news hl hcell h1 hroom hfit
        refine ⟨_, _, _, hrun, ⟨by rw [List.length_append, hown.1, hl, Nat.add_mul], .inr ⟨g, _, rfl, hbg, setRow_heap w g cur _ e _ hg, hroom, hcm, ?_, ?_, ?_⟩⟩, ⟨rfl, rfl, rfl, by simp, fun k _ hk => setRow_other w g k _ (fun e => hk (by simp [blk, e]))⟩, .inl rfl⟩
        · simp only [List.size_toArray, List.length_append, List.length_take, List.length_drop, Array.length_toList]
          omega
        · have hlen : (xs ++ news).length = (n + m) * i.size := by rw [List.length_append, hown.1, hl, Nat.add_mul]
          rw [htake]
          show ((xs ++ news) ++ cur.toList.drop _).take _ = _
          rw [← hlen]
          exact List.take_left
        · intro u hu
          have hu' : u ∈ cur.toList.take (n * i.size) ++ news ++ cur.toList.drop (n * i.size + news.length) := hu
          simp only [List.mem_append] at hu'
          rcases hu' with (hu | hu) | hu
          · exact hG u (List.mem_of_mem_take hu)
          · exact hGn u hu
          · exact hG u (List.mem_of_mem_drop hu)
      · have holds := hown.cells (ad := ⟨g, 0, none⟩) rfl
        have hrun := run_append_grow (P := P) w t ty e i z ht hi hz ⟨g, 0, none⟩ n c xs hown.1 holds ad m d news hl hcell (by omega) (by omega) (growslice_fits (by omega) hbytes)
        obtain ⟨h2, h3⟩ := hnew c (blk (some ⟨g, 0, none⟩)) (by omega)
        exact ⟨_, _, _, hrun, h2, h3, .inr rfl⟩

theorem wpList_app {ops : Array Oper} {rest : List Oper} {o : Oper} {a : Act} {Q : Exit → Act → World → Prop} (hgd : o.guard = none) (s x : Operand) (t : TypeId)
    (ho : o.op = .call { callee := .builtin .append, args := #[s, x], argTypes := #[t, t] })
    (base : Nat) (e : TypeId) (i : TypeInfo) (z : Value) (size bytes : Nat) (G : Value → Prop) (ht : P.underlying t = some (.slice e)) (hi : P.info? e = some i) (hz : i.zero = some z)
    (hsize : i.size = size) (hby : i.bytes = bytes) (hzs : z.cells.size = size) (hsz : 0 < size) (hGz : ∀ u ∈ z.cells.toList, G u)
    (A : Option Addr) (n c : Nat) (xs : List Value) (hs : a.eval s = .slice A n c) (hown : Own w base e size G A n c xs)
    (B : Option Addr) (m d : Nat) (news : List Value) (hx : a.eval x = .slice B m d) (hr : Rd w size B m news) (h1 : ∀ u ∈ news, u.oneCell' = true) (hGn : ∀ u ∈ news, G u)
    (h63 : n + m ≤ maxLen) (hbytes : (n + m) * bytes ≤ 140737488355328) (hbase : base ≤ w.heap.size)
    (h : ∀ A' c' w', Own w' base e size G A' (n + m) c' (xs ++ news) → w.grownBy w' (blk A) → (A' = A ∨ A' = some ⟨w.heap.size, 0, none⟩) → wpList P ops Q rest (a.put o.dst (.slice A' (n + m) c')) w') :
    wpList P ops Q (o :: rest) a w := by
  obtain ⟨A', c', w', hrun, h2, h3, h4⟩ := run_app (P := P) w base t o.type e i z size bytes G ht hi hz hsize hby hzs hsz hGz A n c xs hown B m d news hr h1 hGn h63 hbytes hbase
  refine wpList_plain hgd fun K hK => ?_
  unfold Oper.wp execOp
  simp only [ho, resolve, invoke, builtin, Sem.run_bind, Sem.run_pure, Result.andThen_ok, List.map_toArray, List.map_cons, List.map_nil, hs, hx, hrun]
  exact hK _ _ (h A' c' w' h2 h3 h4)
end


/-! ### rows of numbers -/
def ns (k : IntKind) (xs : List Int) : List Value := xs.map (.int k)
theorem ns_get (k : IntKind) (xs : List Int) (i : Nat) (h : i < xs.length) : (ns k xs)[i]? = some (.int k (xs.getD i 0)) := by
  unfold ns
  rw [List.getElem?_map, List.getD_eq_getElem?_getD, List.getElem?_eq_getElem h]
  rfl
theorem ns_append (k : IntKind) (xs ys : List Int) : ns k (xs ++ ys) = ns k xs ++ ns k ys := by unfold ns; rw [List.map_append]
theorem ns_length (k : IntKind) (xs : List Int) : (ns k xs).length = xs.length := by unfold ns; rw [List.length_map]
/-- some number of the kind -/
def Num (k : IntKind) (u : Value) : Prop := ∃ x : Int, u = .int k x
theorem ns_num (k : IntKind) (xs : List Int) : ∀ u ∈ ns k xs, Num k u := by
  intro u hu
  unfold ns at hu
  rw [List.mem_map] at hu
  obtain ⟨x, _, rfl⟩ := hu
  exact ⟨x, rfl⟩
theorem num_one {k : IntKind} {u : Value} (h : Num k u) : u.oneCell' = true := by obtain ⟨x, rfl⟩ := h; rfl

def RdN (w : World) (k : IntKind) (A : Option Addr) (n : Nat) (xs : List Int) : Prop := Rd w 1 A n (ns k xs)
def OwnN (w : World) (base : Nat) (e : TypeId) (k : IntKind) (A : Option Addr) (n c : Nat) (xs : List Int) : Prop := Own w base e 1 (Num k) A n c (ns k xs)

section
variable {w w' : World} {base : Nat} {e : TypeId} {k : IntKind} {A : Option Addr} {n c : Nat} {xs : List Int}
theorem RdN.len (h : RdN w k A n xs) : xs.length = n := by have := h.1; rw [ns_length] at this; omega
theorem RdN.below (h : RdN w k A n xs) (hb : Below w.heap.size w w') : RdN w' k A n xs := Rd.below h hb
theorem RdN.alloc (h : RdN w k A n xs) (o : Obj) : RdN (w.alloc o) k A n xs := Rd.alloc h o
theorem RdN.drewN (h : RdN w k A n xs) (d : Nat) : RdN (w.drewN d) k A n xs := h
theorem RdN.drew (h : RdN w k A n xs) : RdN w.drew k A n xs := h
theorem RdN.nil (w : World) (k : IntKind) (A : Option Addr) : RdN w k A 0 [] := Rd.nil w 1 A
theorem RdN.at_ (h : RdN w k A n xs) {i : Nat} (hi : i < n) : ∃ ad, A = some ad ∧ ad.block < w.heap.size ∧ w.cell? (ad.add i) = some (.int k (xs.getD i 0)) := by
  obtain ⟨ad, e, hb, hc⟩ := Rd.one h hi
  rw [ns_get k xs i (by rw [h.len]; exact hi)] at hc
  exact ⟨ad, e, hb, hc⟩
theorem RdN.cut (h : RdN w k A n xs) {lo hi cap : Nat} (h1 : lo ≤ hi) (h2 : hi ≤ n) (hc : n ≤ cap) : RdN w k (if cap = lo then A else A.map (·.add lo)) (hi - lo) ((xs.drop lo).take (hi - lo)) := by
  have := Rd.cut h h1 h2 hc
  simp only [Nat.mul_one] at this
  unfold RdN
  rw [show ns k ((xs.drop lo).take (hi - lo)) = ((ns k xs).drop lo).take (hi - lo) from by unfold ns; rw [List.map_take, List.map_drop]]
  exact this
theorem OwnN.len (h : OwnN w base e k A n c xs) : xs.length = n := by have := h.1; rw [ns_length] at this; omega
theorem OwnN.rd (h : OwnN w base e k A n c xs) : RdN w k A n xs := Own.rd h
theorem OwnN.nil (w : World) (base : Nat) (e : TypeId) (k : IntKind) : OwnN w base e k none 0 0 [] := Own.nil w base e 1 _
theorem OwnN.below (h : OwnN w base e k A n c xs) (hb : Below w.heap.size w w') : OwnN w' base e k A n c xs := Own.below h hb
theorem OwnN.alloc (h : OwnN w base e k A n c xs) (o : Obj) : OwnN (w.alloc o) base e k A n c xs := Own.alloc h o
theorem OwnN.drewN (h : OwnN w base e k A n c xs) (d : Nat) : OwnN (w.drewN d) base e k A n c xs := h
theorem OwnN.drew (h : OwnN w base e k A n c xs) : OwnN w.drew base e k A n c xs := h
theorem OwnN.mono (h : OwnN w base e k A n c xs) {base' : Nat} (hb : base' ≤ base) : OwnN w base' e k A n c xs := Own.mono h hb
theorem OwnN.lt (h : OwnN w base e k A n c xs) : ∀ g, blk A = some g → base ≤ g ∧ g < w.heap.size := Own.lt h
theorem OwnN.grown (h : OwnN w base e k A n c xs) {row : Option Nat} (hg : w.grownBy w' row) (hne : ∀ g, blk A = some g → row ≠ some g) : OwnN w' base e k A n c xs := Own.grown h hg hne
theorem OwnN.lit (w : World) (xs : List Int) (m : Nat) (hb : base ≤ w.heap.size) (hl : m ≤ maxLen) (hs : xs.length = m) :
    OwnN (w.alloc (.cells (ns k xs).toArray e)) base e k (some ⟨w.heap.size, 0, none⟩) m m xs := by
  have h := Own.lit (base := base) (e := e) (size := 1) (G := Num k) w (ns k xs).toArray m hb hl (by simp [ns_length, hs]) (by simpa using ns_num k xs)
  exact h
end

theorem info_of {P : Program} {e : TypeId} {x : Option Value × Nat × Nat} (h : (P.info? e).map (fun i => (i.zero, i.size, i.bytes)) = some x) : ∃ i, P.info? e = some i ∧ i.zero = x.1 ∧ i.size = x.2.1 ∧ i.bytes = x.2.2 := by
  cases hi : P.info? e with
  | none => rw [hi] at h; cases h
  | some i => rw [hi] at h; injection h with h; subst h; exact ⟨i, rfl, rfl, rfl, rfl⟩

theorem wpList_appN {P : Program} (w : World) {ops : Array Oper} {rest : List Oper} {o : Oper} {a : Act} {Q : Exit → Act → World → Prop} (hgd : o.guard = none) (s x : Operand) (t : TypeId)
    (ho : o.op = .call { callee := .builtin .append, args := #[s, x], argTypes := #[t, t] })
    (base : Nat) (e : TypeId) (k : IntKind) (bytes : Nat) (ht : P.underlying t = some (.slice e)) (hinf : (P.info? e).map (fun i => (i.zero, i.size, i.bytes)) = some (some (.int k 0), 1, bytes))
    (A : Option Addr) (n c : Nat) (xs : List Int) (hs : a.eval s = .slice A n c) (hown : OwnN w base e k A n c xs)
    (B : Option Addr) (m d : Nat) (ys : List Int) (hx : a.eval x = .slice B m d) (hr : RdN w k B m ys)
    (h63 : n + m ≤ maxLen) (hbytes : (n + m) * bytes ≤ 140737488355328) (hbase : base ≤ w.heap.size)
    (h : ∀ A' c' w', OwnN w' base e k A' (n + m) c' (xs ++ ys) → w.grownBy w' (blk A) → (A' = A ∨ A' = some ⟨w.heap.size, 0, none⟩) → wpList P ops Q rest (a.put o.dst (.slice A' (n + m) c')) w') :
    wpList P ops Q (o :: rest) a w := by
  obtain ⟨i, hi, hz, hsz, hby⟩ := info_of hinf
  refine wpList_app w hgd s x t ho base e i (.int k 0) 1 bytes (Num k) ht hi hz hsz hby rfl (by omega) ?_ A n c (ns k xs) hs hown B m d (ns k ys) hx hr (fun u hu => num_one (ns_num k ys u hu)) (ns_num k ys) h63 hbytes hbase ?_
  · intro u hu
    have : u = .int k 0 := by simpa [Value.cells] using hu
    exact ⟨0, this⟩
  · intro A' c' w' h1 h2 h3
    rw [← ns_append] at h1
    exact h A' c' w' h1 h2 h3

theorem wpList_makeN {P : Program} (w : World) {ops : Array Oper} {rest : List Oper} {o : Oper} {a : Act} {Q : Exit → Act → World → Prop} (hgd : o.guard = none) (x y : Operand) (t : TypeId)
    (ho : o.op = .makeSlice t x y) (base : Nat) (e : TypeId) (k : IntKind) (bytes : Nat) (ht : P.underlying t = some (.slice e)) (hinf : (P.info? e).map (fun i => (i.zero, i.size, i.bytes)) = some (some (.int k 0), 1, bytes))
    (n : Nat) (hx : a.eval x = .int .i64 (n : Int)) (hy : a.eval y = .int .i64 (n : Int)) (hbytes : bytes * n ≤ 281474976710656) (h63 : n ≤ maxLen) (hbase : base ≤ w.heap.size)
    (h : ∀ w', OwnN w' base e k (some ⟨w.heap.size, 0, none⟩) n n (List.replicate n 0) → w.grownBy w' none → wpList P ops Q rest (a.put o.dst (.slice (some ⟨w.heap.size, 0, none⟩) n n)) w') :
    wpList P ops Q (o :: rest) a w := by
  obtain ⟨i, hi, hz, hsz, hby⟩ := info_of hinf
  have h63' : (n : Int) ≤ 9223372036854775807 := by unfold maxLen at h63; omega
  have hr := run_make (P := P) w t e i (.int k 0) ht hi hz .i64 .i64 n n (by omega) (Int.le_refl _) (by rw [hby]; show (bytes : Int) * (n : Int) ≤ _; rw [← Int.natCast_mul]; omega) h63'
  simp only [Int.toNat_natCast, hsz, Nat.mul_one] at hr
  have hl : (madeCells (Value.int k 0).cells n).toList = ns k (List.replicate n 0) := by
    have := toList_madeCells_one (.int k 0) n
    unfold ns
    rw [List.map_replicate]
    exact this
  have hown : OwnN (w.alloc (.cells (madeCells (Value.int k 0).cells n) e)) base e k (some ⟨w.heap.size, 0, none⟩) n n (List.replicate n 0) := by
    have h := Own.lit (base := base) (e := e) (size := 1) (G := Num k) w (madeCells (Value.int k 0).cells n) n hbase h63 (by rw [size_madeCells, Nat.mul_one]) (by rw [hl]; exact ns_num k _)
    rw [hl] at h
    exact h
  refine wpList_plain hgd fun K hK => ?_
  unfold Oper.wp execOp
  simp only [ho, hx, hy, Sem.run_bind, Sem.run_pure, Result.andThen_ok, hr]
  exact hK _ _ (h _ hown (World.grownBy_alloc w _ none))

theorem OwnN.set {w : World} {base : Nat} {e : TypeId} {k : IntKind} {g n c : Nat} {xs : List Int} (h : OwnN w base e k (some ⟨g, 0, none⟩) n c xs) (j : Nat) (x : Int) :
    OwnN (w.setCell ⟨g, j, none⟩ (.int k x)) base e k (some ⟨g, 0, none⟩) n c (xs.set j x) := by
  have := Own.set h j (.int k x) ⟨x, rfl⟩
  unfold OwnN
  rw [show ns k (xs.set j x) = (ns k xs).set j (.int k x) from by unfold ns; rw [List.map_set]]
  exact this
theorem set_fill (xs : List Int) (r : Nat) (x y : Int) (k : Nat) (hk : xs.length = k) (hr : 0 < r) : (xs ++ List.replicate r y).set k x = xs ++ [x] ++ List.replicate (r - 1) y := by
  obtain ⟨r, rfl⟩ : ∃ q, r = q + 1 := ⟨r - 1, by omega⟩
  subst hk
  rw [List.set_append_right _ _ (Nat.le_refl _), Nat.sub_self, List.replicate_succ, List.set_cons_zero]
  simp

theorem Rd.sub {w : World} {size n : Nat} {A : Option Addr} {cs : List Value} (h : Rd w size A n cs) {lo m : Nat} (h2 : lo + m ≤ n) : Rd w size (A.map (·.add (lo * size))) m ((cs.drop (lo * size)).take (m * size)) := by
  refine ⟨?_, fun hn => ?_⟩
  · rw [List.length_take, List.length_drop, h.1, ← Nat.sub_mul]
    exact Nat.min_eq_left (Nat.mul_le_mul_right _ (by omega))
  · obtain ⟨ad, rfl, hb, hcell⟩ := h.2 (by omega)
    refine ⟨ad.add (lo * size), rfl, by rw [block_add]; exact hb, fun j u hu => ?_⟩
    rw [add_add]
    refine hcell _ u ?_
    rw [List.getElem?_take] at hu
    split at hu
    · rw [← hu, List.getElem?_drop]
    · cases hu
theorem RdN.sub {w : World} {k : IntKind} {n : Nat} {A : Option Addr} {xs : List Int} (h : RdN w k A n xs) {lo m : Nat} (h2 : lo + m ≤ n) : RdN w k (A.map (·.add lo)) m ((xs.drop lo).take m) := by
  have := Rd.sub h h2
  simp only [Nat.mul_one] at this
  unfold RdN
  rw [show ns k ((xs.drop lo).take m) = ((ns k xs).drop lo).take m from by unfold ns; rw [List.map_take, List.map_drop]]
  exact this
end Go.Proofs.Ytofclanljhfkiaa
/- Numbers and rows as bytes, in plain Lean: what layer 1 computes, and the laws of it. -/
namespace Go.Proofs.Ytofclanljhfkiaa.En
set_option linter.unusedVariables false
set_option linter.unusedSimpArgs false
set_option maxRecDepth 20000

/-- all are bytes -/
def IsB (xs : List Int) : Prop := ∀ x ∈ xs, 0 ≤ x ∧ x ≤ 255
theorem IsB.nil : IsB [] := by intro x h; cases h
theorem IsB.append {xs ys : List Int} (h : IsB xs) (k : IsB ys) : IsB (xs ++ ys) := by
  intro x hx
  rcases List.mem_append.1 hx with h1 | h1
  · exact h x h1
  · exact k x h1
theorem IsB.cons {x : Int} {xs : List Int} (h : 0 ≤ x ∧ x ≤ 255) (k : IsB xs) : IsB (x :: xs) := by
  intro y hy
  rcases List.mem_cons.1 hy with rfl | h1
  · exact h
  · exact k y h1
theorem IsB.take {xs : List Int} (h : IsB xs) (n : Nat) : IsB (xs.take n) := fun x hx => h x (List.mem_of_mem_take hx)
theorem IsB.drop {xs : List Int} (h : IsB xs) (n : Nat) : IsB (xs.drop n) := fun x hx => h x (List.mem_of_mem_drop hx)
theorem IsB.getD {xs : List Int} (h : IsB xs) (i : Nat) : 0 ≤ xs.getD i 0 ∧ xs.getD i 0 ≤ 255 := by
  rw [List.getD_eq_getElem?_getD]
  cases hi : xs[i]? with
  | none => simp
  | some x => exact h x (List.mem_of_getElem? hi)

/-- so many bytes of a number, the lowest first -/
def lowF (n : Int) : Nat → List Int
  | 0 => []
  | k + 1 => n % 256 :: lowF (n / 256) k
theorem lowF_length (k : Nat) : ∀ n, (lowF n k).length = k := by
  induction k with
  | zero => intro n; rfl
  | succ k ih => intro n; simp [lowF, ih]
theorem lowF_isB (k : Nat) : ∀ n, IsB (lowF n k) := by
  induction k with
  | zero => intro n; exact IsB.nil
  | succ k ih => intro n; exact IsB.cons (by omega) (ih _)
theorem lowF_snoc (k : Nat) : ∀ n, lowF n (k + 1) = lowF n k ++ [n / 256 ^ k % 256] := by
  induction k with
  | zero => intro n; simp [lowF]
  | succ k ih =>
    intro n
    have h : n / 256 / 256 ^ k = n / 256 ^ (k + 1) := by
      rw [Int.ediv_ediv_of_nonneg (by omega), Int.pow_succ, Int.mul_comm]
    show n % 256 :: lowF (n / 256) (k + 1) = n % 256 :: lowF (n / 256) k ++ [n / 256 ^ (k + 1) % 256]
    rw [ih, h]; rfl
/-- the number of bytes -/
def valF : List Int → Int
  | [] => 0
  | x :: p => x + 256 * valF p
theorem valF_snoc (p : List Int) (x : Int) : valF (p ++ [x]) = valF p + x * 256 ^ p.length := by
  induction p with
  | nil => simp [valF]
  | cons y p ih =>
    show y + 256 * valF (p ++ [x]) = y + 256 * valF p + x * 256 ^ (p.length + 1)
    rw [ih, Int.pow_succ, Int.mul_add, ← Int.add_assoc]
    congr 1
    rw [← Int.mul_assoc, Int.mul_comm 256 x, Int.mul_assoc, Int.mul_comm 256]
theorem valF_bound (p : List Int) (h : IsB p) : 0 ≤ valF p ∧ valF p < 256 ^ p.length := by
  induction p with
  | nil => simp [valF]
  | cons y p ih =>
    have h1 := ih fun x hx => h x (List.mem_cons_of_mem _ hx)
    have h2 := h y (List.mem_cons_self ..)
    have e : (256 : Int) ^ (y :: p).length = 256 ^ p.length * 256 := by rw [List.length_cons, Int.pow_succ]
    rw [e]
    unfold valF
    generalize (256 : Int) ^ p.length = q at *
    omega
theorem valF_lowF (k : Nat) : ∀ n, valF (lowF n k) = n % 256 ^ k := by
  induction k with
  | zero => intro n; simp [valF, lowF]
  | succ k ih =>
    intro n
    show n % 256 + 256 * valF (lowF (n / 256) k) = _
    rw [ih, Int.pow_succ, Int.mul_comm (256 ^ k) 256]
    have hp : (0 : Int) < 256 ^ k := Int.pow_pos (by omega)
    have h1 := Int.emod_add_mul_ediv n 256
    have h2 := Int.emod_add_mul_ediv (n / 256) (256 ^ k)
    have h3 := Int.emod_nonneg (n / 256) (Int.ne_of_gt hp)
    have h4 := Int.emod_lt_of_pos (n / 256) hp
    have h5 : n = n % 256 + 256 * (n / 256 % 256 ^ k) + 256 * 256 ^ k * (n / 256 / 256 ^ k) := by
      rw [Int.mul_assoc, Int.add_assoc, ← Int.mul_add, h2, h1]
    have h6 : 0 ≤ n % 256 + 256 * (n / 256 % 256 ^ k) := by omega
    have h7 : n % 256 + 256 * (n / 256 % 256 ^ k) < 256 * 256 ^ k := by
      generalize (256 : Int) ^ k = q at *
      omega
    conv => rhs; rw [h5, Int.add_mul_emod_self_left]
    exact (Int.emod_eq_of_lt h6 h7).symm
theorem lowF_valF (p : List Int) (h : IsB p) : lowF (valF p) p.length = p := by
  induction p with
  | nil => rfl
  | cons y p ih =>
    have h1 := ih fun x hx => h x (List.mem_cons_of_mem _ hx)
    have h2 := h y (List.mem_cons_self ..)
    show (y + 256 * valF p) % 256 :: lowF ((y + 256 * valF p) / 256) p.length = y :: p
    have e1 : (y + 256 * valF p) % 256 = y := by omega
    have e2 : (y + 256 * valF p) / 256 = valF p := by omega
    rw [e1, e2, h1]

/-- may so many bytes be? -/
def szB (m : Int) : Bool := decide (m = 1 ∨ m = 2 ∨ m = 4 ∨ m = 8)
def putF (n m : Int) : List Int × Int := if szB m = true ∧ (8 ≤ m ∨ n < 256 ^ m.toNat) then (lowF n m.toNat, 0) else ([], 2)
def partF (b : List Int) (at_ n : Int) : List Int × Int :=
  if at_ < 0 ∨ (b.length : Int) < at_ ∨ n < 0 then ([], 2) else if (b.length : Int) - at_ < n then ([], 4) else ((b.drop at_.toNat).take n.toNat, 0)
def getF (b : List Int) (at_ m : Int) : Int × Int :=
  if szB m = true then (if (partF b at_ m).2 = 0 then (valF (partF b at_ m).1, 0) else (0, (partF b at_ m).2)) else (0, 2)
def countF (n : Int) : List Int :=
  if n < 253 then [n] else if n < 65536 then 253 :: lowF n 2 else if n < 4294967296 then 254 :: lowF n 4 else 255 :: lowF n 8
/-- how many bytes stand behind a count's first one -/
def manyF (v : Int) : Int := if v = 253 then 2 else if v = 254 then 4 else 8
def getCountF (b : List Int) (at_ : Int) : Int × Int × Int :=
  if (getF b at_ 1).2 = 0 then
    (if (getF b at_ 1).1 < 253 then ((getF b at_ 1).1, at_ + 1, 0)
     else if (getF b (at_ + 1) (manyF (getF b at_ 1).1)).2 = 0 then
       (if ((countF (getF b (at_ + 1) (manyF (getF b at_ 1).1)).1).length : Int) ≤ manyF (getF b at_ 1).1 then (0, 0, 5)
        else ((getF b (at_ + 1) (manyF (getF b at_ 1).1)).1, at_ + 1 + manyF (getF b at_ 1).1, 0))
     else (0, 0, (getF b (at_ + 1) (manyF (getF b at_ 1).1)).2))
  else (0, 0, (getF b at_ 1).2)
def rowF (b : List Int) : List Int := countF b.length ++ b
def getRowF (b : List Int) (at_ most : Int) : List Int × Int × Int :=
  if (getCountF b at_).2.2 = 0 then
    (if most < 0 ∨ most < (getCountF b at_).1 then ([], 0, 3)
     else if (partF b (getCountF b at_).2.1 (getCountF b at_).1).2 = 0 then ((partF b (getCountF b at_).2.1 (getCountF b at_).1).1, (getCountF b at_).2.1 + (getCountF b at_).1, 0)
     else ([], 0, (partF b (getCountF b at_).2.1 (getCountF b at_).1).2))
  else ([], 0, (getCountF b at_).2.2)

theorem partF_isB {b : List Int} (h : IsB b) (at_ n : Int) : IsB (partF b at_ n).1 := by
  unfold partF
  split
  · exact IsB.nil
  · split
    · exact IsB.nil
    · exact (h.drop _).take _
theorem partF_ok {b : List Int} {at_ n : Int} (h : (partF b at_ n).2 = 0) : 0 ≤ at_ ∧ 0 ≤ n ∧ at_ + n ≤ b.length ∧ partF b at_ n = ((b.drop at_.toNat).take n.toNat, 0) := by
  unfold partF at *
  split at h
  · cases h
  · split at h
    · cases h
    · refine ⟨by omega, by omega, by omega, ?_⟩
      rw [if_neg (by omega), if_neg (by omega)]
theorem partF_length {b : List Int} {at_ n : Int} (h : (partF b at_ n).2 = 0) : ((partF b at_ n).1.length : Int) = n := by
  obtain ⟨h1, h2, h3, h4⟩ := partF_ok h
  rw [h4]
  simp only [List.length_take, List.length_drop]
  omega
theorem partF_err {b : List Int} {at_ n : Int} (h : (partF b at_ n).2 ≠ 0) : (partF b at_ n).1 = [] := by
  unfold partF at *
  split
  · rfl
  · split
    · rfl
    · rename_i h1 h2
      rw [if_neg h1, if_neg h2] at h
      exact absurd rfl h
theorem partF_codes (b : List Int) (at_ n : Int) : (partF b at_ n).2 = 0 ∨ (partF b at_ n).2 = 2 ∨ (partF b at_ n).2 = 4 := by
  unfold partF
  split
  · simp
  · split <;> simp
theorem getF_bound {b : List Int} (hb : IsB b) (at_ m : Int) : 0 ≤ (getF b at_ m).1 ∧ (getF b at_ m).1 < 256 ^ m.toNat ∧ (getF b at_ m).1 < 18446744073709551616 := by
  unfold getF
  have hp : (0 : Int) < 256 ^ m.toNat := Int.pow_pos (by omega)
  split
  · rename_i hs
    split
    · rename_i h
      have h1 := valF_bound _ (partF_isB hb at_ m)
      have h2 := partF_length h
      have h3 : (partF b at_ m).1.length = m.toNat := by omega
      rw [h3] at h1
      refine ⟨h1.1, h1.2, ?_⟩
      have hm : m = 1 ∨ m = 2 ∨ m = 4 ∨ m = 8 := by simpa [szB] using hs
      rcases hm with rfl | rfl | rfl | rfl
      · exact Int.lt_of_lt_of_le h1.2 (by decide)
      · exact Int.lt_of_lt_of_le h1.2 (by decide)
      · exact Int.lt_of_lt_of_le h1.2 (by decide)
      · exact Int.lt_of_lt_of_le h1.2 (by decide)
    · simp; exact hp
  · simp; exact hp
theorem countF_len (n : Int) : (countF n).length = 1 ∨ (countF n).length = 3 ∨ (countF n).length = 5 ∨ (countF n).length = 9 := by
  unfold countF
  split
  · simp
  · split
    · simp [lowF_length]
    · split <;> simp [lowF_length]
theorem countF_isB {n : Int} (h : 0 ≤ n) : IsB (countF n) := by
  unfold countF
  split
  · exact IsB.cons (by omega) IsB.nil
  · split
    · exact IsB.cons (by omega) (lowF_isB _ _)
    · split
      · exact IsB.cons (by omega) (lowF_isB _ _)
      · exact IsB.cons (by omega) (lowF_isB _ _)
theorem manyF_or (v : Int) : manyF v = 2 ∨ manyF v = 4 ∨ manyF v = 8 := by unfold manyF; split; simp; split <;> simp
#print axioms valF_lowF
end Go.Proofs.Ytofclanljhfkiaa.En
/- What the functions of layer 1 answer, in the program and in the reference. -/
namespace Go.Proofs.Ytofclanljhfkiaa
open Go.RowKit Go.Proofs En
set_option linter.unusedVariables false
set_option linter.unusedSimpArgs false
set_option maxRecDepth 20000

theorem inf_b : (Try.prog.info? 5).map (fun i => (i.zero, i.size, i.bytes)) = some (some (.int .u8 0), 1, 1) := by kernel_rfl

/-- bytes of one's own -/
abbrev OwnB (w : World) (base : Nat) (A : Option Addr) (n c : Nat) (xs : List Int) : Prop := OwnN w base 5 .u8 A n c xs

set_option maxHeartbeats 400000 in
theorem size_any (n : Int) (w : World) :
    Calls Try.prog 118 #[.int .i64 n] w fun e w' => e = .returned (.bool (szB n)) ∧ w = w' := by
  by_cases h1 : n = 1
  · subst h1
    go_enter Try.func118, Try.ntmps118
    go_wp2
    go_ret
    exact ⟨rfl, rfl⟩
  · have t1 : (n == 1) = false := beq_eq_false_iff_ne.2 h1
    by_cases h2 : n = 2
    · subst h2
      go_enter Try.func118, Try.ntmps118
      go_wp2
      go_ret
      exact ⟨rfl, rfl⟩
    · have t2 : (n == 2) = false := beq_eq_false_iff_ne.2 h2
      by_cases h3 : n = 4
      · subst h3
        go_enter Try.func118, Try.ntmps118
        go_wp2
        go_ret
        exact ⟨rfl, rfl⟩
      · have t3 : (n == 4) = false := beq_eq_false_iff_ne.2 h3
        have hs : szB n = (n == 8) := by unfold szB; by_cases h : n = 8 <;> simp [h, h1, h2, h3]
        have H := Lib.hid hs
        clear hs h1 h2 h3
        go_enter Try.func118, Try.ntmps118
        go_wp2
        go_ret
        exact ⟨by rw [H.out]; rfl, rfl⟩

set_option maxHeartbeats 400000 in
theorem rsize_any (n : Int) (w : World) :
    Calls Try.prog 121 #[.int .i64 n] w fun e w' => e = .returned (.bool (szB n)) ∧ w = w' := by
  by_cases h1 : n = 1
  · subst h1
    go_enter Try.func121, Try.ntmps121
    go_wp2
    go_ret
    exact ⟨rfl, rfl⟩
  · have t1 : (n == 1) = false := beq_eq_false_iff_ne.2 h1
    by_cases h2 : n = 2
    · subst h2
      go_enter Try.func121, Try.ntmps121
      go_wp2
      go_ret
      exact ⟨rfl, rfl⟩
    · have t2 : (n == 2) = false := beq_eq_false_iff_ne.2 h2
      by_cases h3 : n = 4
      · subst h3
        go_enter Try.func121, Try.ntmps121
        go_wp2
        go_ret
        exact ⟨rfl, rfl⟩
      · have t3 : (n == 4) = false := beq_eq_false_iff_ne.2 h3
        have hs : szB n = (n == 8) := by unfold szB; by_cases h : n = 8 <;> simp [h, h1, h2, h3]
        have H := Lib.hid hs
        clear hs h1 h2 h3
        go_enter Try.func121, Try.ntmps121
        go_wp2
        go_ret
        exact ⟨by rw [H.out]; rfl, rfl⟩

theorem pow_shift (k : Nat) : (2 : Int) ^ (8 * k) = 256 ^ k := by
  rw [show (256 : Int) = 2 ^ 8 from rfl, ← Int.pow_mul]

set_option maxHeartbeats 400000 in
theorem low_any (n : Int) (m : Nat) (w : World) (hn : 0 ≤ n ∧ n < 18446744073709551616) (hm : m ≤ 8) :
    Calls Try.prog 94 #[.int .u64 n, .int .i64 m] w fun e w' => ∃ A c, e = .returned (.slice A m c) ∧ OwnB w' w.heap.size A m c (lowF n m) ∧ Below w.heap.size w w' := by
  go_enter Try.func94, Try.ntmps94
  go_wp2_with (at_make; refine Stop.mk ?_)
  refine Stop.out ?_
  refine wpList_makeN _ rfl (.tmp 7) (.tmp 7) _ rfl w.heap.size 5 .u8 1 Try.underlying40 inf_b m rfl rfl (by omega) (by unfold maxLen; omega) (Nat.le_refl _) ?_
  intro w1 hown hg
  have hbel : Below w.heap.size w w1 := (Below.refl _ _).grown hg (Nat.le_refl _) (fun _ h => by cases h)
  go_wp2_with (fail)
  go_loopw [11] (fun i wr => ∃ k : Nat, k ≤ m ∧ i = .int .i64 k ∧ OwnB wr w.heap.size (some ⟨w.heap.size, 0, none⟩) m m (lowF n k ++ List.replicate (m - k) 0) ∧ Below w.heap.size w wr) (fun i _ => m - (intOf i).toNat)
  case atStart => exact ⟨0, by omega, rfl, hown, hbel⟩
  case round =>
    obtain ⟨k, hk, rfl, ho, hb⟩ := hrel
    by_cases hlt : k < m
    · obtain ⟨u, hc, _, hf⟩ := Own.cap_cell ho k (by omega)
      clear hown hbel hg
      go_wp2_with (fail)
      go_roundw
      case rel =>
        refine ⟨k + 1, by omega, by go_num, ?_, hb.setCell (Nat.le_refl _) _⟩
        have h := OwnN.set ho k (n / 2 ^ (8 * k) % 256)
        rw [set_fill _ _ _ _ k (lowF_length k n) (by omega), pow_shift, ← lowF_snoc, Nat.sub_sub] at h
        rw [pow_shift]
        exact h
      case measure => simp [intOf]; omega
    · obtain rfl : k = m := by omega
      rw [Nat.sub_self, List.replicate_zero, List.append_nil] at ho
      clear hown hbel hg
      go_wp2_with (fail)
      go_ret
      exact ⟨_, _, rfl, ho, hb⟩

set_option maxHeartbeats 400000 in
theorem rlow_any (n : Int) (m : Nat) (w : World) (hn : 0 ≤ n ∧ n < 18446744073709551616) (hm : m ≤ 8) :
    Calls Try.prog 114 #[.int .u64 n, .int .i64 m] w fun e w' => ∃ A c, e = .returned (.slice A m c) ∧ OwnB w' w.heap.size A m c (lowF n m) ∧ Below w.heap.size w w' := by
  go_enter Try.func114, Try.ntmps114
  go_wp2_with (fail)
  go_loopw [0, 5, 6] (fun x l i wr => ∃ k : Nat, k ≤ m ∧ i = .int .i64 k ∧ x = .int .u64 (n / 256 ^ k) ∧ ∃ A c, l = .slice A k c ∧ OwnB wr w.heap.size A k c (lowF n k) ∧ Below w.heap.size w wr) (fun _ _ i _ => m - (intOf i).toNat)
  case atStart => exact ⟨0, by omega, rfl, by simp, none, 0, rfl, OwnN.nil _ _ _ _, Below.refl _ _⟩
  case round =>
    obtain ⟨k, hk, rfl, rfl, A, c, rfl, ho, hb⟩ := hrel
    have hp : (0 : Int) < 256 ^ k := Int.pow_pos (by omega)
    have hx : 0 ≤ n / 256 ^ k ∧ n / 256 ^ k < 18446744073709551616 := ⟨Int.ediv_nonneg hn.1 (Int.le_of_lt hp), Int.lt_of_le_of_lt (Int.ediv_le_self _ hn.1) hn.2⟩
    have e1 : n / 256 ^ (k + 1) = n / 256 ^ k / 256 := by rw [Int.pow_succ, Int.ediv_ediv_of_nonneg (Int.le_of_lt hp)]
    have e2 := lowF_snoc k n
    have E := Lib.hid (And.intro e1 e2)
    clear e1 e2 hp
    generalize n / 256 ^ k = x at *
    by_cases hlt : k < m
    · have hz := hb.size
      go_wp2_with (at_builtin; refine Stop.mk ?_)
      refine Stop.out ?_
      refine wpList_appN _ rfl (.tmp 12) (.tmp 16) _ rfl w.heap.size 5 .u8 1 Try.underlying40 inf_b A k c (lowF n k) rfl (ho.alloc _) (some ⟨wr.heap.size, 0, none⟩) 1 1 [x % 256] rfl
        (OwnN.lit (base := 0) (e := 5) (k := .u8) wr [x % 256] 1 (Nat.zero_le _) (by decide) rfl).rd ?_ ?_ ?_ ?_
      · unfold maxLen; omega
      · omega
      · simp; omega
      intro A' c' w1 ho' hg hA
      have hb1 : Below w.heap.size w w1 := (hb.alloc hb.size _).grown hg (by simp; omega) (fun g hg => (ho.lt g hg).1)
      rw [← E.out.2] at ho'
      have H := Lib.hid (And.intro ho' hb1)
      clear ho' hb1 hg hA ho hb
      go_wp2_with (fail)
      go_roundw
      case rel => exact ⟨k + 1, by omega, by go_num, by rw [E.out.1], A', c', rfl, H.out.1, H.out.2⟩
      case measure => simp [intOf]; omega
    · obtain rfl : k = m := by omega
      clear hx
      go_wp2_with (fail)
      go_ret
      exact ⟨_, _, rfl, ho, hb⟩
end Go.Proofs.Ytofclanljhfkiaa
/- What Put, Part and Get answer, in the program and in the reference. -/
namespace Go.Proofs.Ytofclanljhfkiaa
open Go.RowKit Go.Proofs En
set_option linter.unusedVariables false
set_option linter.unusedSimpArgs false
set_option maxRecDepth 20000

theorem szB_or {m : Int} (h : szB m = true) : m = 1 ∨ m = 2 ∨ m = 4 ∨ m = 8 := by simpa [szB] using h

set_option maxHeartbeats 400000 in
theorem put_any (n m : Int) (w : World) (hn : 0 ≤ n ∧ n < 18446744073709551616) :
    Calls Try.prog 117 #[.int .u64 n, .int .i64 m] w fun e w' => ∃ A c, e = .returned (.tuple #[.slice A (putF n m).1.length c, .int .i64 (putF n m).2]) ∧ OwnB w' w.heap.size A (putF n m).1.length c (putF n m).1 ∧ Below w.heap.size w w' := by
  cases hs : szB m with
  | false =>
    have hp : putF n m = ([], 2) := by unfold putF; rw [hs]; exact if_neg (by simp)
    have H := Lib.hid hp
    have S := Lib.hid hs
    clear hp hs
    go_enter Try.func117, Try.ntmps117
    go_wp2_with (fail)
    refine (size_any _ _).mono ?_
    rintro e w' ⟨rfl, rfl⟩
    rw [S.out]
    go_wp2_with (fail)
    go_ret2
    rw [H.out]
    exact ⟨none, 0, rfl, OwnN.nil _ _ _ _, Below.refl _ _⟩
  | true =>
    have hm := szB_or hs
    clear hs
    rcases hm with rfl | rfl | rfl | rfl
    · by_cases h : n < 256
      · have hp : putF n 1 = (lowF n 1, 0) := by unfold putF; exact if_pos ⟨by decide, .inr h⟩
        have H := Lib.hid hp
        have t1 : decide (n / 256 > 0) = false := by rw [decide_eq_false_iff_not]; omega
        have t2 : (n / 256 != 0) = false := by rw [bne_eq_false_iff_eq]; omega
        have t3 : szB 1 = true := by decide
        clear hp h
        have C := Lib.hid (low_any n 1 w hn (by omega))
        go_enter Try.func117, Try.ntmps117
        go_wp2_with (fail)
        refine (size_any _ _).mono ?_
        rintro e w' ⟨rfl, rfl⟩
        rw [t3]
        go_wp2_with (fail)
        refine C.out.mono ?_
        rintro e w' ⟨A, c, rfl, ho, hb⟩
        go_wp2_with (fail)
        go_ret2
        rw [H.out]
        exact ⟨A, c, by rw [lowF_length]; rfl, by rw [lowF_length]; exact ho, hb⟩
      · have hp : putF n 1 = ([], 2) := by unfold putF; exact if_neg (fun h2 => h (h2.2.resolve_left (by omega)))
        have H := Lib.hid hp
        have t1 : decide (n / 256 > 0) = true := by rw [decide_eq_true_eq]; omega
        have t2 : (n / 256 != 0) = true := by rw [bne_iff_ne]; omega
        have t3 : szB 1 = true := by decide
        clear hp h
        go_enter Try.func117, Try.ntmps117
        go_wp2_with (fail)
        refine (size_any _ _).mono ?_
        rintro e w' ⟨rfl, rfl⟩
        rw [t3]
        go_wp2_with (fail)
        go_ret2
        rw [H.out]
        exact ⟨none, 0, rfl, OwnN.nil _ _ _ _, Below.refl _ _⟩
    · by_cases h : n < 65536
      · have hp : putF n 2 = (lowF n 2, 0) := by unfold putF; exact if_pos ⟨by decide, .inr h⟩
        have H := Lib.hid hp
        have t1 : decide (n / 65536 > 0) = false := by rw [decide_eq_false_iff_not]; omega
        have t2 : (n / 65536 != 0) = false := by rw [bne_eq_false_iff_eq]; omega
        have t3 : szB 2 = true := by decide
        clear hp h
        have C := Lib.hid (low_any n 2 w hn (by omega))
        go_enter Try.func117, Try.ntmps117
        go_wp2_with (fail)
        refine (size_any _ _).mono ?_
        rintro e w' ⟨rfl, rfl⟩
        rw [t3]
        go_wp2_with (fail)
        refine C.out.mono ?_
        rintro e w' ⟨A, c, rfl, ho, hb⟩
        go_wp2_with (fail)
        go_ret2
        rw [H.out]
        exact ⟨A, c, by rw [lowF_length]; rfl, by rw [lowF_length]; exact ho, hb⟩
      · have hp : putF n 2 = ([], 2) := by unfold putF; exact if_neg (fun h2 => h (h2.2.resolve_left (by omega)))
        have H := Lib.hid hp
        have t1 : decide (n / 65536 > 0) = true := by rw [decide_eq_true_eq]; omega
        have t2 : (n / 65536 != 0) = true := by rw [bne_iff_ne]; omega
        have t3 : szB 2 = true := by decide
        clear hp h
        go_enter Try.func117, Try.ntmps117
        go_wp2_with (fail)
        refine (size_any _ _).mono ?_
        rintro e w' ⟨rfl, rfl⟩
        rw [t3]
        go_wp2_with (fail)
        go_ret2
        rw [H.out]
        exact ⟨none, 0, rfl, OwnN.nil _ _ _ _, Below.refl _ _⟩
    · by_cases h : n < 4294967296
      · have hp : putF n 4 = (lowF n 4, 0) := by unfold putF; exact if_pos ⟨by decide, .inr h⟩
        have H := Lib.hid hp
        have t1 : decide (n / 4294967296 > 0) = false := by rw [decide_eq_false_iff_not]; omega
        have t2 : (n / 4294967296 != 0) = false := by rw [bne_eq_false_iff_eq]; omega
        have t3 : szB 4 = true := by decide
        clear hp h
        have C := Lib.hid (low_any n 4 w hn (by omega))
        go_enter Try.func117, Try.ntmps117
        go_wp2_with (fail)
        refine (size_any _ _).mono ?_
        rintro e w' ⟨rfl, rfl⟩
        rw [t3]
        go_wp2_with (fail)
        refine C.out.mono ?_
        rintro e w' ⟨A, c, rfl, ho, hb⟩
        go_wp2_with (fail)
        go_ret2
        rw [H.out]
        exact ⟨A, c, by rw [lowF_length]; rfl, by rw [lowF_length]; exact ho, hb⟩
      · have hp : putF n 4 = ([], 2) := by unfold putF; exact if_neg (fun h2 => h (h2.2.resolve_left (by omega)))
        have H := Lib.hid hp
        have t1 : decide (n / 4294967296 > 0) = true := by rw [decide_eq_true_eq]; omega
        have t2 : (n / 4294967296 != 0) = true := by rw [bne_iff_ne]; omega
        have t3 : szB 4 = true := by decide
        clear hp h
        go_enter Try.func117, Try.ntmps117
        go_wp2_with (fail)
        refine (size_any _ _).mono ?_
        rintro e w' ⟨rfl, rfl⟩
        rw [t3]
        go_wp2_with (fail)
        go_ret2
        rw [H.out]
        exact ⟨none, 0, rfl, OwnN.nil _ _ _ _, Below.refl _ _⟩
    · have hp : putF n 8 = (lowF n 8, 0) := by unfold putF; exact if_pos ⟨by decide, .inl (by omega)⟩
      have H := Lib.hid hp
      have t3 : szB 8 = true := by decide
      clear hp
      have C := Lib.hid (low_any n 8 w hn (by omega))
      go_enter Try.func117, Try.ntmps117
      go_wp2_with (fail)
      refine (size_any _ _).mono ?_
      rintro e w' ⟨rfl, rfl⟩
      rw [t3]
      go_wp2_with (fail)
      refine C.out.mono ?_
      rintro e w' ⟨A, c, rfl, ho, hb⟩
      go_wp2_with (fail)
      go_ret2
      rw [H.out]
      exact ⟨A, c, by rw [lowF_length]; rfl, by rw [lowF_length]; exact ho, hb⟩

set_option maxHeartbeats 400000 in
theorem rput_any (n m : Int) (w : World) (hn : 0 ≤ n ∧ n < 18446744073709551616) :
    Calls Try.prog 122 #[.int .u64 n, .int .i64 m] w fun e w' => ∃ A c, e = .returned (.tuple #[.slice A (putF n m).1.length c, .int .i64 (putF n m).2]) ∧ OwnB w' w.heap.size A (putF n m).1.length c (putF n m).1 ∧ Below w.heap.size w w' := by
  cases hs : szB m with
  | false =>
    have hp : putF n m = ([], 2) := by unfold putF; rw [hs]; exact if_neg (by simp)
    have H := Lib.hid hp
    have S := Lib.hid hs
    clear hp hs
    go_enter Try.func122, Try.ntmps122
    go_wp2_with (fail)
    refine (rsize_any _ _).mono ?_
    rintro e w' ⟨rfl, rfl⟩
    rw [S.out]
    go_wp2_with (fail)
    go_ret2
    rw [H.out]
    exact ⟨none, 0, rfl, OwnN.nil _ _ _ _, Below.refl _ _⟩
  | true =>
    have hm := szB_or hs
    clear hs
    rcases hm with rfl | rfl | rfl | rfl
    · by_cases h : n < 256
      · have hp : putF n 1 = (lowF n 1, 0) := by unfold putF; exact if_pos ⟨by decide, .inr h⟩
        have H := Lib.hid hp
        have t1 : decide (n / 256 > 0) = false := by rw [decide_eq_false_iff_not]; omega
        have t2 : (n / 256 != 0) = false := by rw [bne_eq_false_iff_eq]; omega
        have t3 : szB 1 = true := by decide
        clear hp h
        have C := Lib.hid (rlow_any n 1 w hn (by omega))
        go_enter Try.func122, Try.ntmps122
        go_wp2_with (fail)
        refine (rsize_any _ _).mono ?_
        rintro e w' ⟨rfl, rfl⟩
        rw [t3]
        go_wp2_with (fail)
        refine C.out.mono ?_
        rintro e w' ⟨A, c, rfl, ho, hb⟩
        go_wp2_with (fail)
        go_ret2
        rw [H.out]
        exact ⟨A, c, by rw [lowF_length]; rfl, by rw [lowF_length]; exact ho, hb⟩
      · have hp : putF n 1 = ([], 2) := by unfold putF; exact if_neg (fun h2 => h (h2.2.resolve_left (by omega)))
        have H := Lib.hid hp
        have t1 : decide (n / 256 > 0) = true := by rw [decide_eq_true_eq]; omega
        have t2 : (n / 256 != 0) = true := by rw [bne_iff_ne]; omega
        have t3 : szB 1 = true := by decide
        clear hp h
        go_enter Try.func122, Try.ntmps122
        go_wp2_with (fail)
        refine (rsize_any _ _).mono ?_
        rintro e w' ⟨rfl, rfl⟩
        rw [t3]
        go_wp2_with (fail)
        go_ret2
        rw [H.out]
        exact ⟨none, 0, rfl, OwnN.nil _ _ _ _, Below.refl _ _⟩
    · by_cases h : n < 65536
      · have hp : putF n 2 = (lowF n 2, 0) := by unfold putF; exact if_pos ⟨by decide, .inr h⟩
        have H := Lib.hid hp
        have t1 : decide (n / 65536 > 0) = false := by rw [decide_eq_false_iff_not]; omega
        have t2 : (n / 65536 != 0) = false := by rw [bne_eq_false_iff_eq]; omega
        have t3 : szB 2 = true := by decide
        clear hp h
        have C := Lib.hid (rlow_any n 2 w hn (by omega))
        go_enter Try.func122, Try.ntmps122
        go_wp2_with (fail)
        refine (rsize_any _ _).mono ?_
        rintro e w' ⟨rfl, rfl⟩
        rw [t3]
        go_wp2_with (fail)
        refine C.out.mono ?_
        rintro e w' ⟨A, c, rfl, ho, hb⟩
        go_wp2_with (fail)
        go_ret2
        rw [H.out]
        exact ⟨A, c, by rw [lowF_length]; rfl, by rw [lowF_length]; exact ho, hb⟩
      · have hp : putF n 2 = ([], 2) := by unfold putF; exact if_neg (fun h2 => h (h2.2.resolve_left (by omega)))
        have H := Lib.hid hp
        have t1 : decide (n / 65536 > 0) = true := by rw [decide_eq_true_eq]; omega
        have t2 : (n / 65536 != 0) = true := by rw [bne_iff_ne]; omega
        have t3 : szB 2 = true := by decide
        clear hp h
        go_enter Try.func122, Try.ntmps122
        go_wp2_with (fail)
        refine (rsize_any _ _).mono ?_
        rintro e w' ⟨rfl, rfl⟩
        rw [t3]
        go_wp2_with (fail)
        go_ret2
        rw [H.out]
        exact ⟨none, 0, rfl, OwnN.nil _ _ _ _, Below.refl _ _⟩
    · by_cases h : n < 4294967296
      · have hp : putF n 4 = (lowF n 4, 0) := by unfold putF; exact if_pos ⟨by decide, .inr h⟩
        have H := Lib.hid hp
        have t1 : decide (n / 4294967296 > 0) = false := by rw [decide_eq_false_iff_not]; omega
        have t2 : (n / 4294967296 != 0) = false := by rw [bne_eq_false_iff_eq]; omega
        have t3 : szB 4 = true := by decide
        clear hp h
        have C := Lib.hid (rlow_any n 4 w hn (by omega))
        go_enter Try.func122, Try.ntmps122
        go_wp2_with (fail)
        refine (rsize_any _ _).mono ?_
        rintro e w' ⟨rfl, rfl⟩
        rw [t3]
        go_wp2_with (fail)
        refine C.out.mono ?_
        rintro e w' ⟨A, c, rfl, ho, hb⟩
        go_wp2_with (fail)
        go_ret2
        rw [H.out]
        exact ⟨A, c, by rw [lowF_length]; rfl, by rw [lowF_length]; exact ho, hb⟩
      · have hp : putF n 4 = ([], 2) := by unfold putF; exact if_neg (fun h2 => h (h2.2.resolve_left (by omega)))
        have H := Lib.hid hp
        have t1 : decide (n / 4294967296 > 0) = true := by rw [decide_eq_true_eq]; omega
        have t2 : (n / 4294967296 != 0) = true := by rw [bne_iff_ne]; omega
        have t3 : szB 4 = true := by decide
        clear hp h
        go_enter Try.func122, Try.ntmps122
        go_wp2_with (fail)
        refine (rsize_any _ _).mono ?_
        rintro e w' ⟨rfl, rfl⟩
        rw [t3]
        go_wp2_with (fail)
        go_ret2
        rw [H.out]
        exact ⟨none, 0, rfl, OwnN.nil _ _ _ _, Below.refl _ _⟩
    · have hp : putF n 8 = (lowF n 8, 0) := by unfold putF; exact if_pos ⟨by decide, .inl (by omega)⟩
      have H := Lib.hid hp
      have t3 : szB 8 = true := by decide
      clear hp
      have C := Lib.hid (rlow_any n 8 w hn (by omega))
      go_enter Try.func122, Try.ntmps122
      go_wp2_with (fail)
      refine (rsize_any _ _).mono ?_
      rintro e w' ⟨rfl, rfl⟩
      rw [t3]
      go_wp2_with (fail)
      refine C.out.mono ?_
      rintro e w' ⟨A, c, rfl, ho, hb⟩
      go_wp2_with (fail)
      go_ret2
      rw [H.out]
      exact ⟨A, c, by rw [lowF_length]; rfl, by rw [lowF_length]; exact ho, hb⟩

/-- what a function is told of bytes that it is handed: they read as b, and are of a length that memory bears -/
structure Arg (w : World) (A : Option Addr) (n c : Nat) (b : List Int) : Prop where
  rd : RdN w .u8 A n b
  isB : IsB b
  cap : n ≤ c
  top : c ≤ maxLen
  len : n ≤ 140737488355328

theorem take_drop_snoc (b : List Int) (p j : Nat) (h : p + j < b.length) : (b.drop p).take (j + 1) = (b.drop p).take j ++ [b.getD (p + j) 0] := by
  have hl : j < (b.drop p).length := by rw [List.length_drop]; omega
  rw [List.take_succ_eq_append_getElem hl, List.getElem_drop, List.getD_eq_getElem?_getD, List.getElem?_eq_getElem h]
  rfl

set_option maxHeartbeats 400000 in
theorem part_any (A : Option Addr) (n c : Nat) (b : List Int) (at_ k : Int) (w : World) (hb : Arg w A n c b) (ha : -9223372036854775808 ≤ at_ ∧ at_ ≤ 9223372036854775807) (hk : -9223372036854775808 ≤ k ∧ k ≤ 9223372036854775807) :
    Calls Try.prog 101 #[.slice A n c, .int .i64 at_, .int .i64 k] w fun e w' => ∃ A' c', e = .returned (.tuple #[.slice A' (partF b at_ k).1.length c', .int .i64 (partF b at_ k).2]) ∧ OwnB w' w.heap.size A' (partF b at_ k).1.length c' (partF b at_ k).1 ∧ Below w.heap.size w w' := by
  have hl := hb.rd.len
  have hc := hb.cap
  have ht : c ≤ 9223372036854775807 := hb.top
  have hn := hb.len
  by_cases h1 : at_ < 0 ∨ (n : Int) < at_ ∨ k < 0
  · have hp : partF b at_ k = ([], 2) := by unfold partF; rw [hl]; exact if_pos h1
    have H := Lib.hid hp
    have HL := Lib.hid hl
    clear hp hl hb
    by_cases t1 : at_ < 0
    · have d1 : decide (at_ < 0) = true := decide_eq_true t1
      clear h1 t1
      go_enter Try.func101, Try.ntmps101
      go_wp2_with (fail)
      go_ret2
      rw [H.out]
      exact ⟨none, 0, rfl, OwnN.nil _ _ _ _, Below.refl _ _⟩
    · have d1 : decide (at_ < 0) = false := decide_eq_false t1
      by_cases t2 : at_ > n
      · have d2 : decide (at_ > (n : Int)) = true := decide_eq_true t2
        clear h1 t1
        go_enter Try.func101, Try.ntmps101
        go_wp2_with (fail)
        go_ret2
        rw [H.out]
        exact ⟨none, 0, rfl, OwnN.nil _ _ _ _, Below.refl _ _⟩
      · have d2 : decide (at_ > (n : Int)) = false := decide_eq_false t2
        have d3 : decide (k < 0) = true := by rw [decide_eq_true_eq]; omega
        clear h1 t1
        go_enter Try.func101, Try.ntmps101
        go_wp2_with (fail)
        go_ret2
        rw [H.out]
        exact ⟨none, 0, rfl, OwnN.nil _ _ _ _, Below.refl _ _⟩
  · have t1 : 0 ≤ at_ := by omega
    have t2 : at_ ≤ n := by omega
    have t3 : 0 ≤ k := by omega
    have d1 : decide (at_ < 0) = false := decide_eq_false (by omega)
    have d2 : decide (at_ > (n : Int)) = false := decide_eq_false (by omega)
    have d3 : decide (k < 0) = false := decide_eq_false (by omega)
    by_cases h2 : (n : Int) - at_ < k
    · have hp : partF b at_ k = ([], 4) := by unfold partF; rw [hl, if_neg h1]; exact if_pos h2
      have H := Lib.hid hp
      have HL := Lib.hid hl
      have d4 : decide (k > (n : Int) - at_) = true := by rw [decide_eq_true_eq]; omega
      clear hp hl hb h1
      go_enter Try.func101, Try.ntmps101
      go_wp2_with (fail)
      go_ret2
      rw [H.out]
      exact ⟨none, 0, rfl, OwnN.nil _ _ _ _, Below.refl _ _⟩
    · have hp : partF b at_ k = ((b.drop at_.toNat).take k.toNat, 0) := by unfold partF; rw [hl, if_neg h1, if_neg h2]
      have d4 : decide (k > (n : Int) - at_) = false := decide_eq_false (by omega)
      have t4 : k ≤ n - at_ := by omega
      obtain ⟨p, rfl⟩ := Int.eq_ofNat_of_zero_le t1
      obtain ⟨q, rfl⟩ := Int.eq_ofNat_of_zero_le t3
      have d5 : decide (n < p) = false := decide_eq_false (by omega)
      rw [Int.toNat_natCast, Int.toNat_natCast] at hp
      have hrd := hb.rd.sub (lo := p) (m := q) (by omega)
      have hlen : ((b.drop p).take q).length = q := by rw [List.length_take, List.length_drop, hl]; omega
      have H := Lib.hid (And.intro hp hlen)
      have HL := Lib.hid hl
      clear hp hl hb h1 h2 hlen
      by_cases hq : q = 0
      · subst hq
        go_enter Try.func101, Try.ntmps101
        go_wp2_with (at_builtin; refine Stop.mk ?_)
        refine Stop.out ?_
        refine wpList_appN _ rfl (.const (.slice none 0 0)) (.tmp 36) _ rfl w.heap.size 5 .u8 1 Try.underlying40 inf_b none 0 0 [] rfl (OwnN.nil _ _ _ _) A 0 0 [] rfl (RdN.nil _ _ _) (by unfold maxLen; omega) (by omega) (Nat.le_refl _) ?_
        intro A' c' w1 ho hg hA
        have hb1 : Below w.heap.size w w1 := (Below.refl _ _).grown hg (Nat.le_refl _) (fun _ h => by cases h)
        have H2 := Lib.hid (And.intro ho hb1)
        clear ho hb1 hg hA
        go_wp2_with (fail)
        go_ret2
        rw [H.out.1]
        exact ⟨A', c', rfl, H2.out.1, H2.out.2⟩
      · have hq0 : (p : Int) + q ≠ p := by omega
        go_enter Try.func101, Try.ntmps101
        go_wp2_with (at_builtin; refine Stop.mk ?_)
        refine Stop.out ?_
        refine wpList_appN _ rfl (.const (.slice none 0 0)) (.tmp 36) _ rfl w.heap.size 5 .u8 1 Try.underlying40 inf_b none 0 0 [] rfl (OwnN.nil _ _ _ _) _ (p + q - p) (p + q - p) ((b.drop p).take q) rfl (by rw [Nat.add_sub_cancel_left]; exact hrd) (by unfold maxLen; omega) (by omega) (Nat.le_refl _) ?_
        intro A' c' w1 ho hg hA
        have hb1 : Below w.heap.size w w1 := (Below.refl _ _).grown hg (Nat.le_refl _) (fun _ h => by cases h)
        rw [Nat.zero_add, List.nil_append, Nat.add_sub_cancel_left] at ho
        have H2 := Lib.hid (And.intro ho hb1)
        clear ho hb1 hg hA
        go_wp2_with (fail)
        go_ret2
        rw [H.out.1, H.out.2]
        exact ⟨A', c', by simp, H2.out.1, H2.out.2⟩
set_option maxHeartbeats 400000 in
theorem rpart_any (A : Option Addr) (n c : Nat) (b : List Int) (at_ k : Int) (w : World) (hb : Arg w A n c b) (ha : -9223372036854775808 ≤ at_ ∧ at_ ≤ 9223372036854775807) (hk : -9223372036854775808 ≤ k ∧ k ≤ 9223372036854775807) :
    Calls Try.prog 111 #[.slice A n c, .int .i64 at_, .int .i64 k] w fun e w' => ∃ A' c', e = .returned (.tuple #[.slice A' (partF b at_ k).1.length c', .int .i64 (partF b at_ k).2]) ∧ OwnB w' w.heap.size A' (partF b at_ k).1.length c' (partF b at_ k).1 ∧ Below w.heap.size w w' := by
  have hl := hb.rd.len
  have hc := hb.cap
  have ht : c ≤ 9223372036854775807 := hb.top
  have hn := hb.len
  by_cases h1 : at_ < 0 ∨ (n : Int) < at_ ∨ k < 0
  · have hp : partF b at_ k = ([], 2) := by unfold partF; rw [hl]; exact if_pos h1
    have H := Lib.hid hp
    have HL := Lib.hid hl
    clear hp hl hb
    by_cases t1 : at_ < 0
    · have d1 : decide (at_ < 0) = true := decide_eq_true t1
      clear h1 t1
      go_enter Try.func111, Try.ntmps111
      go_wp2_with (fail)
      go_ret2
      rw [H.out]
      exact ⟨none, 0, rfl, OwnN.nil _ _ _ _, Below.refl _ _⟩
    · have d1 : decide (at_ < 0) = false := decide_eq_false t1
      by_cases t2 : at_ > n
      · have d2 : decide (at_ > (n : Int)) = true := decide_eq_true t2
        clear h1 t1
        go_enter Try.func111, Try.ntmps111
        go_wp2_with (fail)
        go_ret2
        rw [H.out]
        exact ⟨none, 0, rfl, OwnN.nil _ _ _ _, Below.refl _ _⟩
      · have d2 : decide (at_ > (n : Int)) = false := decide_eq_false t2
        have d3 : decide (k < 0) = true := by rw [decide_eq_true_eq]; omega
        clear h1 t1
        go_enter Try.func111, Try.ntmps111
        go_wp2_with (fail)
        go_ret2
        rw [H.out]
        exact ⟨none, 0, rfl, OwnN.nil _ _ _ _, Below.refl _ _⟩
  · have t1 : 0 ≤ at_ := by omega
    have t2 : at_ ≤ n := by omega
    have t3 : 0 ≤ k := by omega
    have d1 : decide (at_ < 0) = false := decide_eq_false (by omega)
    have d2 : decide (at_ > (n : Int)) = false := decide_eq_false (by omega)
    have d3 : decide (k < 0) = false := decide_eq_false (by omega)
    by_cases h2 : (n : Int) - at_ < k
    · have hp : partF b at_ k = ([], 4) := by unfold partF; rw [hl, if_neg h1]; exact if_pos h2
      have H := Lib.hid hp
      have HL := Lib.hid hl
      have d4 : decide (k > (n : Int) - at_) = true := by rw [decide_eq_true_eq]; omega
      clear hp hl hb h1
      go_enter Try.func111, Try.ntmps111
      go_wp2_with (fail)
      go_ret2
      rw [H.out]
      exact ⟨none, 0, rfl, OwnN.nil _ _ _ _, Below.refl _ _⟩
    · have hp : partF b at_ k = ((b.drop at_.toNat).take k.toNat, 0) := by unfold partF; rw [hl, if_neg h1, if_neg h2]
      have d4 : decide (k > (n : Int) - at_) = false := decide_eq_false (by omega)
      have t4 : k ≤ n - at_ := by omega
      obtain ⟨p, rfl⟩ := Int.eq_ofNat_of_zero_le t1
      obtain ⟨q, rfl⟩ := Int.eq_ofNat_of_zero_le t3
      have d5 : decide (n < p) = false := decide_eq_false (by omega)
      rw [Int.toNat_natCast, Int.toNat_natCast] at hp
      have hrd0 := hb.rd
      have hlen : ((b.drop p).take q).length = q := by rw [List.length_take, List.length_drop, hl]; omega
      have H := Lib.hid (And.intro hp hlen)
      have HL := Lib.hid hl
      clear hp hl hb h1 h2 hlen
      have hA := hrd0
      go_enter Try.func111, Try.ntmps111
      go_wp2_with (fail)
      go_loopw [8, 9] (fun l i wr => ∃ j : Nat, j ≤ q ∧ i = .int .i64 j ∧ ∃ A' c', l = .slice A' j c' ∧ OwnB wr w.heap.size A' j c' ((b.drop p).take j) ∧ Below w.heap.size w wr) (fun _ i _ => q - (intOf i).toNat)
      case atStart => exact ⟨0, by omega, rfl, none, 0, rfl, OwnN.nil _ _ _ _, Below.refl _ _⟩
      case round =>
        obtain ⟨j, hj, rfl, A', c', rfl, ho, hbel⟩ := hrel
        by_cases hlt : j < q
        · obtain ⟨ad, rfl, hbk, hc0⟩ := hA.at_ (show p + j < n by omega)
          have hc1 : wr.cell? (ad.add (p + j)) = some (.int .u8 (b.getD (p + j) 0)) := (hbel.cell (by rw [block_add]; exact hbk)).trans hc0
          have hsn := take_drop_snoc b p j (by rw [HL.out]; omega)
          have SN := Lib.hid hsn
          have hz := hbel.size
          clear hc0 hsn
          generalize b.getD (p + j) 0 = x at *
          go_wp2_with (at_builtin; refine Stop.mk ?_)
          refine Stop.out ?_
          refine wpList_appN _ rfl (.tmp 33) (.tmp 40) _ rfl w.heap.size 5 .u8 1 Try.underlying40 inf_b A' j c' _ rfl (ho.alloc _) (some ⟨wr.heap.size, 0, none⟩) 1 1 [x] rfl
            (OwnN.lit (base := 0) (e := 5) (k := .u8) wr [x] 1 (Nat.zero_le _) (by decide) rfl).rd (by unfold maxLen; omega) (by omega) (by simp; omega) ?_
          intro A2 c2 w1 ho2 hg hA2
          have hb1 : Below w.heap.size w w1 := (hbel.alloc hbel.size _).grown hg (by simp; omega) (fun g hg => (ho.lt g hg).1)
          rw [← SN.out] at ho2
          have H2 := Lib.hid (And.intro ho2 hb1)
          clear ho2 hb1 hg hA2 ho hbel
          go_wp2_with (fail)
          go_roundw
          case rel => exact ⟨j + 1, by omega, by go_num, A2, c2, rfl, H2.out.1, H2.out.2⟩
          case measure => simp [intOf]; omega
        · obtain rfl : j = q := by omega
          have H2 := Lib.hid (And.intro ho hbel)
          clear ho hbel
          go_wp2_with (fail)
          go_ret2
          rw [H.out.1, H.out.2]
          exact ⟨A', c', rfl, H2.out.1, H2.out.2⟩

end Go.Proofs.Ytofclanljhfkiaa
/- What Get answers, in the program and in the reference. -/
namespace Go.Proofs.Ytofclanljhfkiaa
open Go.RowKit Go.Proofs En
set_option linter.unusedVariables false
set_option linter.unusedSimpArgs false
set_option maxRecDepth 20000

theorem take_snoc (p : List Int) (j : Nat) (h : j < p.length) : p.take (j + 1) = p.take j ++ [p.getD j 0] := by
  have := take_drop_snoc p 0 j (by omega)
  simpa using this
theorem val_take (p : List Int) (j : Nat) (h : j < p.length) : valF (p.take (j + 1)) = valF (p.take j) + p.getD j 0 * 2 ^ (8 * j) := by
  rw [take_snoc p j h, valF_snoc, List.length_take, Nat.min_eq_left (by omega), pow_shift]
theorem or_add (a x : Int) (j : Nat) (ha : 0 ≤ a ∧ a < 2 ^ (8 * j)) (hx : 0 ≤ x ∧ x ≤ 255) (hj : j ≤ 7) : bits .or .u64 a (IntKind.u64.wrap (x * 2 ^ (8 * j))) = a + x * 2 ^ (8 * j) := by
  obtain ⟨a, rfl⟩ := Int.eq_ofNat_of_zero_le ha.1
  obtain ⟨x, rfl⟩ := Int.eq_ofNat_of_zero_le hx.1
  have h1 : a < 2 ^ (8 * j) := by
    have := ha.2
    rw [show ((2 : Int) ^ (8 * j)) = ((2 ^ (8 * j) : Nat) : Int) from by simp] at this
    omega
  have h2 : 2 ^ (8 * j) ≤ 2 ^ 56 := Nat.pow_le_pow_right (by omega) (by omega)
  have h3 : x * 2 ^ (8 * j) ≤ 255 * 2 ^ 56 := Nat.mul_le_mul (by omega) h2
  have e : ((x : Int) * 2 ^ (8 * j)) = ((x <<< (8 * j) : Nat) : Int) := by rw [Nat.shiftLeft_eq]; simp
  have h4 : x <<< (8 * j) < 18446744073709551616 := by rw [Nat.shiftLeft_eq]; omega
  rw [e, IntKind.wrap_u64, Int.emod_eq_of_lt (by omega) (by omega), bits_or_u64_nat _ _ (by omega) h4, Nat.or_comm, ← Nat.shiftLeft_add_eq_or_of_lt h1]
  simp [Nat.add_comm]

set_option maxHeartbeats 400000 in
theorem get_any (A : Option Addr) (n c : Nat) (b : List Int) (at_ k : Int) (w : World) (hb : Arg w A n c b) (ha : -9223372036854775808 ≤ at_ ∧ at_ ≤ 9223372036854775807) (hk : -9223372036854775808 ≤ k ∧ k ≤ 9223372036854775807) :
    Calls Try.prog 99 #[.slice A n c, .int .i64 at_, .int .i64 k] w fun e w' => e = .returned (.tuple #[.int .u64 (getF b at_ k).1, .int .i64 (getF b at_ k).2]) ∧ Below w.heap.size w w' := by
  cases hs : szB k with
  | false =>
    have hp : getF b at_ k = (0, 2) := by unfold getF; rw [hs]; exact if_neg (by simp)
    have H := Lib.hid hp
    have S := Lib.hid hs
    clear hp hs
    go_enter Try.func99, Try.ntmps99
    go_wp2_with (fail)
    refine (size_any _ _).mono ?_
    rintro e w' ⟨rfl, rfl⟩
    rw [S.out]
    go_wp2_with (fail)
    go_ret2
    rw [H.out]
    exact ⟨rfl, Below.refl _ _⟩
  | true =>
    have C := Lib.hid (part_any A n c b at_ k w hb ha hk)
    have S := Lib.hid hs
    by_cases he : (partF b at_ k).2 = 0
    · have hp : getF b at_ k = (valF (partF b at_ k).1, 0) := by unfold getF; rw [if_pos hs, if_pos he]
      have hl := partF_length he
      have hB := partF_isB hb.isB at_ k
      rw [hp]
      have h8 : (partF b at_ k).1.length ≤ 8 := by have := szB_or hs; omega
      have E := Lib.hid he
      clear hp hs he hl hb
      generalize (partF b at_ k).2 = q at *
      generalize (partF b at_ k).1 = p at *
      go_enter Try.func99, Try.ntmps99
      go_wp2_with (fail)
      refine (size_any _ _).mono ?_
      rintro e w' ⟨rfl, rfl⟩
      rw [S.out]
      go_wp2_with (fail)
      refine C.out.mono ?_
      rintro e w' ⟨A', c', rfl, ho, hbel⟩
      rw [E.out]
      clear C E S
      have hrd := ho.rd
      have hz := hbel.size
      go_wp2_with (fail)
      go_loop [10, 28] (fun v i => ∃ j : Nat, j ≤ p.length ∧ i = .int .i64 j ∧ v = .int .u64 (valF (p.take j))) (fun _ i => p.length - (intOf i).toNat)
      case atStart => exact ⟨0, by omega, rfl, rfl⟩
      case round =>
        obtain ⟨j, hj, rfl, rfl⟩ := hrel
        by_cases hlt : j < p.length
        · obtain ⟨ad, rfl, hbk, hc0⟩ := hrd.at_ hlt
          have hg := hB.getD j
          have hv := valF_bound (p.take j) (hB.take j)
          rw [List.length_take, Nat.min_eq_left hj, ← pow_shift] at hv
          have hv1 := valF_bound (p.take (j + 1)) (hB.take _)
          have hvt := val_take p j hlt
          have hor := or_add _ (p.getD j 0) j hv hg (by omega)
          generalize p.getD j 0 = x at *
          go_wp2_with (fail)
          go_round
          case rel => refine ⟨j + 1, by omega, by go_num, ?_⟩; rw [hvt]
          case measure => simp [intOf]; omega
        · obtain rfl : j = p.length := by omega
          go_wp2_with (fail)
          go_ret2
          exact ⟨rfl, hbel⟩
    · have hp : getF b at_ k = (0, (partF b at_ k).2) := by unfold getF; rw [if_pos hs, if_neg he]
      have d1 : ((partF b at_ k).2 != 0) = true := by rw [bne_iff_ne]; exact he
      rw [hp]
      clear hp hs he hb
      generalize (partF b at_ k).1 = p at *
      generalize (partF b at_ k).2 = q at *
      go_enter Try.func99, Try.ntmps99
      go_wp2_with (fail)
      refine (size_any _ _).mono ?_
      rintro e w' ⟨rfl, rfl⟩
      rw [S.out]
      go_wp2_with (fail)
      refine C.out.mono ?_
      rintro e w' ⟨A', c', rfl, ho, hbel⟩
      clear C S
      have hz := hbel.size
      go_wp2_with (fail)
      go_ret2
      exact ⟨rfl, hbel⟩

theorem val_drop (p : List Int) (j : Nat) (h : j < p.length) : valF (p.drop j) = p.getD j 0 + 256 * valF (p.drop (j + 1)) := by
  rw [List.drop_eq_getElem_cons h, List.getD_eq_getElem?_getD, List.getElem?_eq_getElem h]
  rfl

set_option maxHeartbeats 400000 in
theorem rget_any (A : Option Addr) (n c : Nat) (b : List Int) (at_ k : Int) (w : World) (hb : Arg w A n c b) (ha : -9223372036854775808 ≤ at_ ∧ at_ ≤ 9223372036854775807) (hk : -9223372036854775808 ≤ k ∧ k ≤ 9223372036854775807) :
    Calls Try.prog 112 #[.slice A n c, .int .i64 at_, .int .i64 k] w fun e w' => e = .returned (.tuple #[.int .u64 (getF b at_ k).1, .int .i64 (getF b at_ k).2]) ∧ Below w.heap.size w w' := by
  cases hs : szB k with
  | false =>
    have hp : getF b at_ k = (0, 2) := by unfold getF; rw [hs]; exact if_neg (by simp)
    have H := Lib.hid hp
    have S := Lib.hid hs
    clear hp hs
    go_enter Try.func112, Try.ntmps112
    go_wp2_with (fail)
    refine (rsize_any _ _).mono ?_
    rintro e w' ⟨rfl, rfl⟩
    rw [S.out]
    go_wp2_with (fail)
    go_ret2
    rw [H.out]
    exact ⟨rfl, Below.refl _ _⟩
  | true =>
    have C := Lib.hid (rpart_any A n c b at_ k w hb ha hk)
    have S := Lib.hid hs
    have hp : getF b at_ k = (valF (partF b at_ k).1, (partF b at_ k).2) := by
      unfold getF
      rw [if_pos hs]
      split
      · rename_i h; rw [h]
      · rename_i h; rw [partF_err h]; rfl
    have hB := partF_isB hb.isB at_ k
    have h8 : (partF b at_ k).1.length ≤ 8 := by
      by_cases he : (partF b at_ k).2 = 0
      · have := szB_or hs
        have := partF_length he
        omega
      · rw [partF_err he]; simp
    rw [hp]
    clear hp hs hb
    generalize (partF b at_ k).2 = q at *
    generalize (partF b at_ k).1 = p at *
    go_enter Try.func112, Try.ntmps112
    go_wp2_with (fail)
    refine (rsize_any _ _).mono ?_
    rintro e w' ⟨rfl, rfl⟩
    rw [S.out]
    go_wp2_with (fail)
    refine C.out.mono ?_
    rintro e w' ⟨A', c', rfl, ho, hbel⟩
    clear C S
    have hrd := ho.rd
    have hz := hbel.size
    go_wp2_with (fail)
    go_loop [10, 11] (fun v i => ∃ j : Nat, j ≤ p.length ∧ i = .int .i64 (j - 1) ∧ v = .int .u64 (valF (p.drop j))) (fun _ i => (intOf i + 1).toNat)
    case atStart => exact ⟨p.length, by omega, rfl, by simp [valF]⟩
    case round =>
      obtain ⟨j, hj, rfl, rfl⟩ := hrel
      by_cases hlt : 0 < j
      · obtain ⟨j, rfl⟩ : ∃ i, j = i + 1 := ⟨j - 1, by omega⟩
        obtain ⟨ad, rfl, hbk, hc0⟩ := hrd.at_ (show j < p.length by omega)
        have hg := hB.getD j
        have hv1 := valF_bound (p.drop j) (hB.drop _)
        have hv2 := valF_bound (p.drop (j + 1)) (hB.drop _)
        have h256 : (256 : Int) ^ (p.drop j).length ≤ 256 ^ 8 := by
          have : (256 : Nat) ^ (p.drop j).length ≤ 256 ^ 8 := Nat.pow_le_pow_right (by omega) (by rw [List.length_drop]; omega)
          have h2 : ((256 ^ (p.drop j).length : Nat) : Int) ≤ ((256 ^ 8 : Nat) : Int) := by exact_mod_cast this
          simpa using h2
        have hvt := val_drop p j (by omega)
        have hlim : valF (p.drop j) < 18446744073709551616 := Int.lt_of_lt_of_le hv1.2 h256
        have hlo := hv2.1
        clear h256 hv1 hv2
        have hcs : (((j + 1 : Nat) : Int) - 1) = (j : Int) := by omega
        have HV := Lib.hid hvt
        generalize p.getD j 0 = x at *
        obtain ⟨z, hzz⟩ : ∃ z, z = valF (p.drop j) := ⟨_, rfl⟩
        rw [← hzz] at hvt hlim
        have ZZ := Lib.hid hzz
        clear hzz HV
        generalize valF (p.drop (j + 1)) = y at *
        have hm1 : 0 ≤ 256 * y := by omega
        have hm2 : 256 * y < 18446744073709551616 := by omega
        rw [hcs]
        have hm3 : 0 ≤ 256 * y + x := by omega
        have hm4 : 256 * y + x < 18446744073709551616 := by omega
        have hz2 : 256 * y + x = z := by omega
        have Z := Lib.hid hz2
        clear hz2 hvt hlim hcs
        go_wp2_with (fail)
        go_round
        case rel => exact ⟨j, by omega, by go_num, by rw [Z.out, ZZ.out]⟩
        case measure => simp [intOf]
      · obtain rfl : j = 0 := by omega
        go_wp2_with (fail)
        go_ret2
        exact ⟨rfl, hbel⟩
end Go.Proofs.Ytofclanljhfkiaa
