/- Joined texts: TabA, TabB, TabC, TabD, TabE. -/
import Derived.Test.YtofclanljhfkiaaM8
import Derived.Lib.LazyBuf
import Derived.Lib.AppendZeros
/- The table's order of points, and its searches' tests; a new table; a table that is off. -/
namespace Go.Proofs.Ytofclanljhfkiaa
open Go.RowKit Go.Proofs En Co
set_option linter.unusedVariables false
set_option linter.unusedSimpArgs false
set_option maxRecDepth 20000
attribute [local go_sem ↓] ld_point_eq ld_coin_eq ld_hash_eq st_point_eq st_coin_eq bd_point_eq bd_coin_eq eq_point_eq ne_point_eq al_coin_eq al_point_eq
attribute [local go_sem] ld_point_run ld_coin_run ld_hash_run st_point_run st_coin_run bd_point_zero bd_coin_zero bd_point_of bd_coin_of hash_at rowIs_34 rowIs_37 rowIs_both hasAt_both cellsAt_both eq_point_run ne_point_run guard_pt al_coin_run al_point_run al_coin_row al_point_row

/-- the order of points as a number -/
def Co.orderF (a b : Pt) : Int := if lessF a b = true then -1 else if lessF b a = true then 1 else 0

/-- two points in their boxes -/
abbrev St2 (w : World) (a b : Pt) (w' : World) : Prop := Below w.heap.size w w' ∧ w'.heap[w.heap.size]? = some (.cells (pc a).toArray 54 (0, 0)) ∧ w'.heap[w.heap.size + 1]? = some (.cells (pc b).toArray 54 (0, 0)) ∧
  (hasAt w' w.heap.size 0 34 ∧ cellsAt w' w.heap.size 0 34 = (pc a).toArray) ∧ (hasAt w' (w.heap.size + 1) 0 34 ∧ cellsAt w' (w.heap.size + 1) 0 34 = (pc b).toArray)
section
variable {w w' w2 : World} {a b : Pt}
theorem St2.of (ha : a.ok) (hb : b.ok) (h : Below w.heap.size w w') (h0 : w'.heap[w.heap.size]? = some (.cells (pc a).toArray 54 (0, 0))) (h1 : w'.heap[w.heap.size + 1]? = some (.cells (pc b).toArray 54 (0, 0))) : St2 w a b w' :=
  ⟨h, h0, h1, row_has ha h0, row_has hb h1⟩
theorem St2.below (ha : a.ok) (hb : b.ok) (h : St2 w a b w') (hbl : Below w'.heap.size w' w2) : St2 w a b w2 :=
  St2.of ha hb (bThen h.1 hbl) ((hbl.block _ (Array.getElem?_eq_some_iff.1 h.2.1).1).trans h.2.1) ((hbl.block _ (Array.getElem?_eq_some_iff.1 h.2.2.1).1).trans h.2.2.1)
end

set_option maxRecDepth 20000 in
set_option maxHeartbeats 1000000 in
theorem order_any (a b : Pt) (w : World) (ha : a.ok) (hb : b.ok) :
    Calls Try.prog 105 #[.agg (pc a).toArray, .agg (pc b).toArray] w fun e w' => e = .returned (.int .i64 (orderF a b)) ∧ Below w.heap.size w w' := by
  obtain ⟨h0, h1⟩ := two_box w (.cells (pc a).toArray 54) (.cells (pc b).toArray 54)
  have hS0 : St2 w a b ((w.alloc (.cells (pc a).toArray 54)).alloc (.cells (pc b).toArray 54)) :=
    St2.of ha hb (belA ((Below.refl _ _).alloc (Nat.le_refl _) _) _ (Nat.le_refl _)) h0 h1
  clear h0 h1
  obtain ⟨x, hx⟩ : ∃ x, lessF a b = x := ⟨_, rfl⟩
  obtain ⟨y, hy⟩ : ∃ y, lessF b a = y := ⟨_, rfl⟩
  have hr : orderF a b = if x = true then -1 else if y = true then 1 else 0 := by unfold orderF; rw [hx, hy]
  have L := Lib.hid (And.intro hx hy)
  rw [hr]
  clear hx hy hr
  cases x with
  | true =>
    go_enter Try.func105, Try.ntmps105
    go_wp2_with (fail)
    refine (less_is ha hb L.out.1).mono ?_
    rintro e w1 ⟨rfl, hb1⟩
    have hS1 := hS0.below ha hb hb1
    clear hb1 hS0
    go_wp2_with (fail)
    go_ret
    exact ⟨rfl, hS1.1⟩
  | false =>
    cases y with
    | true =>
      go_enter Try.func105, Try.ntmps105
      go_wp2_with (fail)
      refine (less_is ha hb L.out.1).mono ?_
      rintro e w1 ⟨rfl, hb1⟩
      have hS1 := hS0.below ha hb hb1
      clear hb1 hS0
      go_wp2_with (fail)
      refine (less_is hb ha L.out.2).mono ?_
      rintro e w2 ⟨rfl, hb2⟩
      have hS2 := hS1.below ha hb hb2
      clear hb2 hS1
      go_wp2_with (fail)
      go_ret
      exact ⟨rfl, hS2.1⟩
    | false =>
      go_enter Try.func105, Try.ntmps105
      go_wp2_with (fail)
      refine (less_is ha hb L.out.1).mono ?_
      rintro e w1 ⟨rfl, hb1⟩
      have hS1 := hS0.below ha hb hb1
      clear hb1 hS0
      go_wp2_with (fail)
      refine (less_is hb ha L.out.2).mono ?_
      rintro e w2 ⟨rfl, hb2⟩
      have hS2 := hS1.below ha hb hb2
      clear hb2 hS1
      go_wp2_with (fail)
      go_ret
      exact ⟨rfl, hS2.1⟩

/-- a coin and a point in their boxes -/
abbrev StCP (w : World) (m : Cm) (b : Pt) (w' : World) : Prop := Below w.heap.size w w' ∧ w'.heap[w.heap.size]? = some (.cells (cc m).toArray 57 (0, 0)) ∧ w'.heap[w.heap.size + 1]? = some (.cells (pc b).toArray 54 (0, 0)) ∧
  (hasAt w' w.heap.size 0 34 ∧ cellsAt w' w.heap.size 0 34 = (pc m.c.p).toArray) ∧ (hasAt w' (w.heap.size + 1) 0 34 ∧ cellsAt w' (w.heap.size + 1) 0 34 = (pc b).toArray)
set_option maxRecDepth 20000 in
set_option maxHeartbeats 1000000 in
theorem find2_any (m : Cm) (b : Pt) (w : World) (hm : m.c.p.ok) (hb : b.ok) :
    Calls Try.prog 107 #[.agg (cc m).toArray, .agg (pc b).toArray] w fun e w' => e = .returned (.int .i64 (orderF m.c.p b)) ∧ Below w.heap.size w w' := by
  obtain ⟨h0, h1⟩ := two_box w (.cells (cc m).toArray 57) (.cells (pc b).toArray 54)
  have hS0 : StCP w m b ((w.alloc (.cells (cc m).toArray 57)).alloc (.cells (pc b).toArray 54)) :=
    ⟨belA ((Below.refl _ _).alloc (Nat.le_refl _) _) _ (Nat.le_refl _), h0, h1, (coin_has hm h0).2, row_has hb h1⟩
  have C := Lib.hid (fun w' => order_any m.c.p b w' hm hb)
  generalize orderF m.c.p b = r at *
  clear h0 h1
  go_enter Try.func107, Try.ntmps107
  go_wp2_with (fail)
  refine (C.out _).mono ?_
  rintro e w1 ⟨rfl, hb1⟩
  have hbl := bThen hS0.1 hb1
  clear hb1 hS0
  go_wp2_with (fail)
  go_ret
  exact ⟨rfl, hbl⟩
end Go.Proofs.Ytofclanljhfkiaa
/- A copy of bytes; a coin that shares nothing. -/
namespace Go.Proofs.Ytofclanljhfkiaa
open Go.RowKit Go.Proofs En Co
set_option linter.unusedVariables false
set_option linter.unusedSimpArgs false
set_option maxRecDepth 20000
attribute [local go_sem ↓] ld_point_eq ld_coin_eq ld_hash_eq st_point_eq st_coin_eq bd_point_eq bd_coin_eq eq_point_eq ne_point_eq al_coin_eq al_point_eq
attribute [local go_sem] ld_point_run ld_coin_run ld_hash_run st_point_run st_coin_run bd_point_zero bd_coin_zero bd_point_of bd_coin_of hash_at rowIs_34 rowIs_37 rowIs_both hasAt_both cellsAt_both eq_point_run ne_point_run guard_pt al_coin_run al_point_run al_coin_row al_point_row

theorem nil_bytes (w : World) (a : Option Addr) (l c : Nat) : (binOp .eql 40 (.slice a l c) (.slice none 0 0)).run Try.prog w = .ok (.bool a.isNone) w := run_eql_slice_nil w _ _ a l c Try.underlying40
theorem nil_coins (w : World) (a : Option Addr) (l c : Nat) : (binOp .eql 22 (.slice a l c) (.slice none 0 0)).run Try.prog w = .ok (.bool a.isNone) w := run_eql_slice_nil w _ _ a l c Try.underlying22
attribute [local go_sem] nil_bytes nil_coins

theorem Own.setRowOther {w : World} {base : Nat} {e : TypeId} {size : Nat} {G : Value → Prop} {A : Option Addr} {n c : Nat} {cs : List Value} (h : Own w base e size G A n c cs) {g : Nat} (hg : blk A ≠ some g) (xs : Array Value) : Own (w.setRow g xs) base e size G A n c cs :=
  h.keep fun k hk => setRow_other w g k xs (fun e => hg (by rw [hk, e]))
theorem belSetRow {B : Nat} {a w : World} (h : Below B a w) {g : Nat} (hg : B ≤ g) (xs : Array Value) : Below B a (w.setRow g xs) :=
  ⟨h.os, h.tape, h.output, Nat.le_trans h.size (by simp), fun k hk => (setRow_other w g k xs (by omega)).trans (h.block k hk)⟩

set_option maxRecDepth 20000 in
set_option maxHeartbeats 1000000 in
theorem clone8_any (A : Option Addr) (n c : Nat) (xs : List Int) (w : World) (hA : RdN w .u8 A n xs) (hn : n ≤ 140737488355328) :
    Calls Try.prog 108 #[.slice A n c] w fun e w' => ∃ B d, e = .returned (.slice B n d) ∧ OwnB w' w.heap.size B n d xs ∧ Below w.heap.size w w' := by
  cases A with
  | none =>
    have hn0 : n = 0 := by
      rcases Nat.eq_zero_or_pos n with h | h
      · exact h
      · obtain ⟨ad, h1, _⟩ := hA.2 h; cases h1
    subst hn0
    have hx : xs = [] := List.eq_nil_of_length_eq_zero (by have := hA.len; omega)
    subst hx
    go_enter Try.func108, Try.ntmps108
    go_wp2_with (fail)
    go_ret
    exact ⟨none, 0, rfl, OwnN.nil _ _ _ _, Below.refl _ _⟩
  | some a =>
    have hb0 : Below w.heap.size w (w.alloc (.cells #[] 5)) := (Below.refl _ _).alloc (Nat.le_refl _) _
    have hz0 := hb0.size
    go_enter Try.func108, Try.ntmps108
    go_wp2_with (at_builtin; refine Stop.mk ?_)
    refine Stop.out ?_
    refine wpList_appN _ rfl (.tmp 5) (.tmp 6) _ rfl w.heap.size 5 .u8 1 Try.underlying40 inf_b (some ⟨w.heap.size, 0, none⟩) 0 0 [] rfl (OwnN.lit (base := w.heap.size) (e := 5) (k := .u8) w [] 0 (Nat.le_refl _) (Nat.zero_le _) rfl) (some a) n c xs rfl (hA.below hb0) (by unfold maxLen; omega) (by omega) hz0 ?_
    intro A1 c1 w1 ho1 hg _
    rw [Nat.zero_add, List.nil_append] at ho1
    rw [Nat.zero_add]
    have hb1 : Below w.heap.size w w1 := hb0.grown hg hz0 (fun k hk => by injection hk with hk; subst hk; exact Nat.le_refl _)
    clear hg hb0 hz0
    go_wp2_with (fail)
    go_ret
    exact ⟨A1, c1, rfl, ho1, hb1⟩

set_option maxRecDepth 20000 in
set_option maxHeartbeats 1000000 in
theorem copied_any (m : Cm) (w : World) (hm : m.ok w) :
    Calls Try.prog 70 #[.agg (cc m).toArray] w fun e w' => ∃ A k, e = .returned (.agg (cc ⟨m.c, A, k⟩).toArray) ∧ OwnB w' w.heap.size A m.c.l.length k m.c.l ∧ Below w.heap.size w w' := by
  obtain ⟨f0, g0⟩ := two_box w (.cells (cc m).toArray 57) (.cells (cc zm).toArray 57)
  have bl0 : Below w.heap.size w ((w.alloc (.cells (cc m).toArray 57)).alloc (.cells (cc zm).toArray 57)) := belA ((Below.refl _ _).alloc (Nat.le_refl _) _) _ (Nat.le_refl _)
  have z0 := lock_cell hm.c.p f0
  have hln := hm.arg.len
  go_enter Try.func70, Try.ntmps70
  go_wp2_with (fail)
  refine (clone8_any m.A m.c.l.length m.k m.c.l _ (hm.below bl0).arg.rd hln).mono ?_
  rintro e w1 ⟨A1, c1, rfl, ho1, hb1⟩
  have bl1 := bThen bl0 hb1
  have f1 := kept f0 hb1
  have g1 := kept g0 hb1
  have z1 := lock_cell hm.c.p f1
  have z1f := (row_cells f1 36).2
  have f2 := lock_row hm.c.p A1 c1 f1
  have g2 := (Below.heap_setCell w1 ⟨w.heap.size, 36, none⟩ (.slice A1 m.c.l.length c1) (w.heap.size + 1) (by show w.heap.size + 1 ≠ w.heap.size; omega)).trans g1
  have hz0 : w.heap.size + 1 < ((w.alloc (.cells (cc m).toArray 57)).alloc (.cells (cc zm).toArray 57)).heap.size := (Array.getElem?_eq_some_iff.1 g0).1
  have hne : blk A1 ≠ some w.heap.size := fun e => by have := (OwnN.lt ho1 _ e).1; omega
  have hne2 : blk A1 ≠ some (w.heap.size + 1) := fun e => by have := (OwnN.lt ho1 _ e).1; omega
  have o2 := Own.setOther ho1 (p := ⟨w.heap.size, 36, none⟩) hne (.slice A1 m.c.l.length c1)
  have bl2 := bl1.setCell (p := ⟨w.heap.size, 36, none⟩) (Nat.le_refl _) (.slice A1 m.c.l.length c1)
  obtain ⟨x2, y2⟩ := (coin_has (m := ⟨m.c, A1, c1⟩) hm.c.p f2).1
  have hr2 : rowIs (w1.setCell ⟨w.heap.size, 36, none⟩ (.slice A1 m.c.l.length c1)) (w.heap.size + 1) 37 := rowIs_of g2 (by simpa using cc_length (m := zm) zeroPt_ok)
  have hok2 := cc_ok (m := ⟨m.c, A1, c1⟩) hm.c.p
  clear ho1 hb1 f1 g1 f0 g0 z0 f2 g2 bl1 bl0
  go_wp2_with (fail)
  refine bodyPost_ret (res_cell1 Try.results70 rfl (rd_coin_set hr2 hok2.1)) rfl ?_
  exact ⟨A1, c1, rfl, Own.mono (Own.setRowOther o2 hne2 _) (by omega), belSetRow bl2 (by omega) _⟩
end Go.Proofs.Ytofclanljhfkiaa
/- Coins in a row: what a function is told of them, and coins of one's own. -/
namespace Go.Proofs.Ytofclanljhfkiaa
open Go.RowKit Go.Proofs En Co
set_option linter.unusedVariables false
set_option linter.unusedSimpArgs false
set_option maxRecDepth 20000

def pcs (hs : List Cm) : List Value := hs.flatMap cc
def cns (hs : List Cm) : List Cn := hs.map Cm.c
theorem pcs_nil : pcs [] = [] := rfl
theorem pcs_cons (m : Cm) (hs : List Cm) : pcs (m :: hs) = cc m ++ pcs hs := rfl
theorem pcs_append (xs ys : List Cm) : pcs (xs ++ ys) = pcs xs ++ pcs ys := by unfold pcs; rw [List.flatMap_append]
theorem cns_append (xs ys : List Cm) : cns (xs ++ ys) = cns xs ++ cns ys := by unfold cns; rw [List.map_append]
theorem cns_length (hs : List Cm) : (cns hs).length = hs.length := by unfold cns; rw [List.length_map]
theorem pcs_length {hs : List Cm} (h : ∀ m ∈ hs, m.c.p.ok) : (pcs hs).length = hs.length * 37 := by
  induction hs with
  | nil => rfl
  | cons m hs ih =>
    rw [pcs_cons, List.length_append, cc_length (h m (List.mem_cons_self ..)), ih (fun x hx => h x (List.mem_cons_of_mem _ hx)), List.length_cons]
    omega
theorem pcs_get {hs : List Cm} (h : ∀ m ∈ hs, m.c.p.ok) {i : Nat} {m : Cm} (hi : hs[i]? = some m) {j : Nat} (hj : j < 37) : (pcs hs)[i * 37 + j]? = (cc m)[j]? := by
  induction hs generalizing i with
  | nil => simp at hi
  | cons x hs ih =>
    have hx := cc_length (h x (List.mem_cons_self ..))
    cases i with
    | zero =>
      simp at hi
      subst hi
      rw [pcs_cons, Nat.zero_mul, Nat.zero_add, List.getElem?_append_left (by omega)]
    | succ i =>
      rw [pcs_cons, List.getElem?_append_right (by omega), hx, show (i + 1) * 37 + j - 37 = i * 37 + j by omega]
      exact ih (fun y hy => h y (List.mem_cons_of_mem _ hy)) (by simpa using hi)
theorem pcs_take {hs : List Cm} (h : ∀ m ∈ hs, m.c.p.ok) (k : Nat) : (pcs hs).take (k * 37) = pcs (hs.take k) := by
  induction hs generalizing k with
  | nil => simp [pcs]
  | cons x hs ih =>
    cases k with
    | zero => simp [pcs]
    | succ k =>
      have hx := cc_length (h x (List.mem_cons_self ..))
      rw [List.take_succ_cons, pcs_cons, pcs_cons, ← ih (fun y hy => h y (List.mem_cons_of_mem _ hy)), List.take_append, hx, List.take_of_length_le (by omega), show (k + 1) * 37 - 37 = k * 37 by omega]
theorem pcs_drop {hs : List Cm} (h : ∀ m ∈ hs, m.c.p.ok) (k : Nat) : (pcs hs).drop (k * 37) = pcs (hs.drop k) := by
  induction hs generalizing k with
  | nil => simp [pcs]
  | cons x hs ih =>
    cases k with
    | zero => simp [pcs]
    | succ k =>
      have hx := cc_length (h x (List.mem_cons_self ..))
      rw [List.drop_succ_cons, pcs_cons, ← ih (fun y hy => h y (List.mem_cons_of_mem _ hy)), List.drop_append, hx, List.drop_eq_nil_of_le (by omega), List.nil_append, show (k + 1) * 37 - 37 = k * 37 by omega]
theorem pcs_one {hs : List Cm} : ∀ u ∈ pcs hs, u.oneCell' = true := by
  intro u hu
  unfold pcs at hu
  obtain ⟨m, _, hm⟩ := List.mem_flatMap.1 hu
  exact cc_one m u hm

/-- coins that a function is handed -/
structure ArgP (w : World) (B : Option Addr) (n c : Nat) (hs : List Cm) : Prop where
  rd : Rd w 37 B n (pcs hs)
  ok : ∀ m ∈ hs, m.ok w
  len : hs.length = n
  cap : n ≤ c
  max : c ≤ maxLen
theorem ArgP.pok {w : World} {B : Option Addr} {n c : Nat} {hs : List Cm} (h : ArgP w B n c hs) : ∀ m ∈ hs, m.c.p.ok := fun m hm => (h.ok m hm).c.p
theorem ArgP.below {w w' : World} {B : Option Addr} {n c : Nat} {hs : List Cm} (h : ArgP w B n c hs) (hb : Below w.heap.size w w') : ArgP w' B n c hs :=
  ⟨h.rd.below hb, fun m hm => (h.ok m hm).below hb, h.len, h.cap, h.max⟩
/-- the coin at a place -/
theorem ArgP.at_ {w : World} {B : Option Addr} {n c : Nat} {hs : List Cm} (h : ArgP w B n c hs) {k : Nat} (hk : k < n) :
    ∃ ad m, B = some ad ∧ hs[k]? = some m ∧ m.ok w ∧ ad.block < w.heap.size ∧ ∀ j v, (cc m)[j]? = some v → w.cell? ((ad.add (k * 37)).add j) = some v := by
  obtain ⟨ad, e, hb, hc⟩ := h.rd.at_ hk
  have hl := h.len
  have hx : hs[k]? = some hs[k] := List.getElem?_eq_getElem (by omega)
  refine ⟨ad, hs[k], e, hx, h.ok _ (List.getElem_mem ..), hb, fun j v hv => ?_⟩
  have hj : j < 37 := by
    have := (List.getElem?_eq_some_iff.1 hv).1
    rwa [cc_length (h.pok _ (List.getElem_mem ..))] at this
  rw [add_add, hc j hj, pcs_get h.pok hx hj]
  exact hv
/-- a whole coin is read -/
theorem ld_coin_at (w : World) (ad : Addr) (m : Cm) (hp : m.c.p.ok) (h : ∀ j v, (cc m)[j]? = some v → w.cell? (ad.add j) = some v) : (ld_coin (.pointer (some ad))).run Try.prog w = .ok (.agg (cc m).toArray) w := by
  have := run_loadVar_at (P := Try.prog) w ad 57 (cc m) _ Try.underlying57 rfl (by rw [cc_length hp]; kernel_rfl) h
  simpa [ld_coin, Instr.loadAt, Instr.sureAddr, asAddr] using this
theorem ld_point_at (w : World) (ad : Addr) (m : Cm) (hp : m.c.p.ok) (h : ∀ j v, (cc m)[j]? = some v → w.cell? (ad.add j) = some v) : (ld_point (.pointer (some ad))).run Try.prog w = .ok (.agg (pc m.c.p).toArray) w := by
  have := run_loadVar_at (P := Try.prog) w ad 54 (pc m.c.p) _ Try.underlying54 rfl (by rw [pc_length hp]; kernel_rfl) (fun j v hv => h j v (by
    have := (List.getElem?_eq_some_iff.1 hv).1
    unfold cc
    rw [List.getElem?_append_left this]
    exact hv))
  simpa [ld_point, Instr.loadAt, Instr.sureAddr, asAddr] using this

/-- coins of one's own, each with a lock of one's own -/
structure OwnP (w : World) (base : Nat) (B : Option Addr) (n c : Nat) (hs : List Cm) : Prop where
  row : Own w base 57 37 (fun _ => True) B n c (pcs hs)
  ok : ∀ m ∈ hs, m.c.ok ∧ OwnB w base m.A m.c.l.length m.k m.c.l ∧ m.c.l.length ≤ 140737488355328
  len : hs.length = n
theorem OwnP.nil (w : World) (base : Nat) : OwnP w base none 0 0 [] := ⟨Own.nil _ _ _ _ _, fun _ h => (by cases h), rfl⟩
theorem OwnP.below {w w' : World} {base : Nat} {B : Option Addr} {n c : Nat} {hs : List Cm} (h : OwnP w base B n c hs) (hb : Below w.heap.size w w') : OwnP w' base B n c hs :=
  ⟨h.row.below hb, fun x hx => ⟨(h.ok x hx).1, (h.ok x hx).2.1.below hb, (h.ok x hx).2.2⟩, h.len⟩
theorem OwnP.mono {w : World} {base base' : Nat} {B : Option Addr} {n c : Nat} {hs : List Cm} (h : OwnP w base B n c hs) (hb : base' ≤ base) : OwnP w base' B n c hs :=
  ⟨Own.mono h.row hb, fun x hx => ⟨(h.ok x hx).1, OwnN.mono (h.ok x hx).2.1 hb, (h.ok x hx).2.2⟩, h.len⟩
theorem OwnP.drewN {w : World} {base : Nat} {B : Option Addr} {n c : Nat} {hs : List Cm} (h : OwnP w base B n c hs) (k : Nat) : OwnP (w.drewN k) base B n c hs := ⟨h.row, h.ok, h.len⟩
theorem OwnP.cm {w : World} {base : Nat} {B : Option Addr} {n c : Nat} {hs : List Cm} (h : OwnP w base B n c hs) : ∀ m ∈ hs, m.ok w := fun m hm =>
  ⟨(h.ok m hm).1, (h.ok m hm).2.1.rd, (h.ok m hm).1.l, (Own.len_cap (h.ok m hm).2.1).1, (Own.len_cap (h.ok m hm).2.1).2, (h.ok m hm).2.2⟩
theorem OwnP.arg {w : World} {base : Nat} {B : Option Addr} {n c : Nat} {hs : List Cm} (h : OwnP w base B n c hs) : ArgP w B n c hs :=
  ⟨h.row.rd, h.cm, h.len, (Own.len_cap h.row).1, (Own.len_cap h.row).2⟩
/-- coins' row and a row of bytes are two blocks -/
theorem OwnP.ne {w : World} {base base' : Nat} {B A : Option Addr} {n c k d : Nat} {hs : List Cm} {p : List Int} (h : OwnP w base B n c hs) (hp : OwnB w base' A k d p) : ∀ g, blk A = some g → blk B ≠ some g := by
  intro g hg
  rcases hp.2 with ⟨rfl, _⟩ | ⟨g', cur, rfl, _, hh, _⟩
  · simp [blk] at hg
  · have e : g' = g := by simpa [blk] using hg
    subst e
    exact Own.ne_block h.row hh (by decide)

theorem inf_coin : (Try.prog.info? 57).map (fun i => (i.zero.map Value.cells, i.size, i.bytes)) = some (some (cc zm).toArray, 37, 80) := by kernel_rfl
/-- coins are appended to coins of one's own -/
theorem wpList_appP (w : World) {ops : Array Oper} {rest : List Oper} {o : Oper} {a : Act} {Q : Exit → Act → World → Prop} (hgd : o.guard = none) (s x : Operand)
    (ho : o.op = .call { callee := .builtin .append, args := #[s, x], argTypes := #[22, 22] })
    (base : Nat) (B : Option Addr) (n c : Nat) (hs : List Cm) (hsv : a.eval s = .slice B n c) (hown : OwnP w base B n c hs)
    (B2 : Option Addr) (m2 c2 : Nat) (gs : List Cm) (hx : a.eval x = .slice B2 m2 c2) (hg : Rd w 37 B2 m2 (pcs gs)) (hl2 : gs.length = m2)
    (hgs : ∀ m ∈ gs, m.c.ok ∧ OwnB w base m.A m.c.l.length m.k m.c.l ∧ m.c.l.length ≤ 140737488355328) (hm : n + m2 ≤ 1000000000) (hbase : base ≤ w.heap.size)
    (h : ∀ B' c' w', OwnP w' base B' (n + m2) c' (hs ++ gs) → w.grownBy w' (blk B) → wpList Try.prog ops Q rest (a.put o.dst (.slice B' (n + m2) c')) w') :
    wpList Try.prog ops Q (o :: rest) a w := by
  have hi0 := inf_coin
  cases hi : Try.prog.info? 57 with
  | none => rw [hi] at hi0; cases hi0
  | some i =>
    rw [hi] at hi0
    simp only [Option.map_some, Option.some.injEq, Prod.mk.injEq] at hi0
    obtain ⟨hz0, hsz, hby⟩ := hi0
    cases hz : i.zero with
    | none => rw [hz] at hz0; cases hz0
    | some z =>
      rw [hz] at hz0
      simp only [Option.map_some, Option.some.injEq] at hz0
      refine wpList_app _ hgd s x _ ho base 57 i z 37 80 (fun _ => True) Try.underlying22 hi hz hsz hby (by rw [hz0]; simpa using cc_length (m := zm) zeroPt_ok) (by omega) (fun _ _ => trivial) B n c (pcs hs) hsv hown.row _ m2 c2 (pcs gs) hx hg pcs_one (fun _ _ => trivial)
        (by unfold maxLen; omega) (by omega) hbase ?_
      intro B' c' w' h2 hg2 _
      refine h B' c' w' ⟨by rw [pcs_append]; exact h2, ?_, by rw [List.length_append, hown.len, hl2]⟩ hg2
      intro y hy
      rcases List.mem_append.1 hy with hy | hy
      · obtain ⟨k1, k2, k3⟩ := hown.ok y hy
        exact ⟨k1, OwnN.grown k2 hg2 (hown.ne k2), k3⟩
      · obtain ⟨k1, k2, k3⟩ := hgs y hy
        exact ⟨k1, OwnN.grown k2 hg2 (hown.ne k2), k3⟩
end Go.Proofs.Ytofclanljhfkiaa
/- Copies of coins. -/
namespace Go.Proofs.Ytofclanljhfkiaa
open Go.RowKit Go.Proofs En Co
set_option linter.unusedVariables false
set_option linter.unusedSimpArgs false
set_option maxRecDepth 20000
attribute [local go_sem ↓] ld_point_eq ld_coin_eq ld_hash_eq st_point_eq st_coin_eq bd_point_eq bd_coin_eq eq_point_eq ne_point_eq al_coin_eq al_point_eq
attribute [local go_sem] ld_point_run ld_coin_run ld_hash_run st_point_run st_coin_run bd_point_zero bd_coin_zero bd_point_of bd_coin_of hash_at rowIs_34 rowIs_37 rowIs_both hasAt_both cellsAt_both eq_point_run ne_point_run guard_pt al_coin_run al_point_run al_coin_row al_point_row nil_bytes nil_coins

/-- a slice of one coin, written down -/
def bs_coin (ps : Array (Nat × Value)) : Sem Value := Instr.buildSlice 22 1 ps
theorem bs_coin_eq (ps : Array (Nat × Value)) : Instr.buildSlice 22 1 ps = bs_coin ps := rfl
theorem arr37 {cs : Array Value} (h : cs.size = 37) : ∃ x0 x1 x2 x3 x4 x5 x6 x7 x8 x9 x10 x11 x12 x13 x14 x15 x16 x17 x18 x19 x20 x21 x22 x23 x24 x25 x26 x27 x28 x29 x30 x31 x32 x33 x34 x35 x36 : Value, cs = #[x0, x1, x2, x3, x4, x5, x6, x7, x8, x9, x10, x11, x12, x13, x14, x15, x16, x17, x18, x19, x20, x21, x22, x23, x24, x25, x26, x27, x28, x29, x30, x31, x32, x33, x34, x35, x36] := by
  obtain ⟨l⟩ := cs
  replace h : l.length = 37 := h
  rcases l with _ | ⟨x0, l⟩
  · simp at h
  replace h : l.length = 36 := by simpa using h
  rcases l with _ | ⟨x1, l⟩
  · simp at h
  replace h : l.length = 35 := by simpa using h
  rcases l with _ | ⟨x2, l⟩
  · simp at h
  replace h : l.length = 34 := by simpa using h
  rcases l with _ | ⟨x3, l⟩
  · simp at h
  replace h : l.length = 33 := by simpa using h
  rcases l with _ | ⟨x4, l⟩
  · simp at h
  replace h : l.length = 32 := by simpa using h
  rcases l with _ | ⟨x5, l⟩
  · simp at h
  replace h : l.length = 31 := by simpa using h
  rcases l with _ | ⟨x6, l⟩
  · simp at h
  replace h : l.length = 30 := by simpa using h
  rcases l with _ | ⟨x7, l⟩
  · simp at h
  replace h : l.length = 29 := by simpa using h
  rcases l with _ | ⟨x8, l⟩
  · simp at h
  replace h : l.length = 28 := by simpa using h
  rcases l with _ | ⟨x9, l⟩
  · simp at h
  replace h : l.length = 27 := by simpa using h
  rcases l with _ | ⟨x10, l⟩
  · simp at h
  replace h : l.length = 26 := by simpa using h
  rcases l with _ | ⟨x11, l⟩
  · simp at h
  replace h : l.length = 25 := by simpa using h
  rcases l with _ | ⟨x12, l⟩
  · simp at h
  replace h : l.length = 24 := by simpa using h
  rcases l with _ | ⟨x13, l⟩
  · simp at h
  replace h : l.length = 23 := by simpa using h
  rcases l with _ | ⟨x14, l⟩
  · simp at h
  replace h : l.length = 22 := by simpa using h
  rcases l with _ | ⟨x15, l⟩
  · simp at h
  replace h : l.length = 21 := by simpa using h
  rcases l with _ | ⟨x16, l⟩
  · simp at h
  replace h : l.length = 20 := by simpa using h
  rcases l with _ | ⟨x17, l⟩
  · simp at h
  replace h : l.length = 19 := by simpa using h
  rcases l with _ | ⟨x18, l⟩
  · simp at h
  replace h : l.length = 18 := by simpa using h
  rcases l with _ | ⟨x19, l⟩
  · simp at h
  replace h : l.length = 17 := by simpa using h
  rcases l with _ | ⟨x20, l⟩
  · simp at h
  replace h : l.length = 16 := by simpa using h
  rcases l with _ | ⟨x21, l⟩
  · simp at h
  replace h : l.length = 15 := by simpa using h
  rcases l with _ | ⟨x22, l⟩
  · simp at h
  replace h : l.length = 14 := by simpa using h
  rcases l with _ | ⟨x23, l⟩
  · simp at h
  replace h : l.length = 13 := by simpa using h
  rcases l with _ | ⟨x24, l⟩
  · simp at h
  replace h : l.length = 12 := by simpa using h
  rcases l with _ | ⟨x25, l⟩
  · simp at h
  replace h : l.length = 11 := by simpa using h
  rcases l with _ | ⟨x26, l⟩
  · simp at h
  replace h : l.length = 10 := by simpa using h
  rcases l with _ | ⟨x27, l⟩
  · simp at h
  replace h : l.length = 9 := by simpa using h
  rcases l with _ | ⟨x28, l⟩
  · simp at h
  replace h : l.length = 8 := by simpa using h
  rcases l with _ | ⟨x29, l⟩
  · simp at h
  replace h : l.length = 7 := by simpa using h
  rcases l with _ | ⟨x30, l⟩
  · simp at h
  replace h : l.length = 6 := by simpa using h
  rcases l with _ | ⟨x31, l⟩
  · simp at h
  replace h : l.length = 5 := by simpa using h
  rcases l with _ | ⟨x32, l⟩
  · simp at h
  replace h : l.length = 4 := by simpa using h
  rcases l with _ | ⟨x33, l⟩
  · simp at h
  replace h : l.length = 3 := by simpa using h
  rcases l with _ | ⟨x34, l⟩
  · simp at h
  replace h : l.length = 2 := by simpa using h
  rcases l with _ | ⟨x35, l⟩
  · simp at h
  replace h : l.length = 1 := by simpa using h
  rcases l with _ | ⟨x36, l⟩
  · simp at h
  replace h : l.length = 0 := by simpa using h
  have hl : l = [] := List.eq_nil_of_length_eq_zero h
  subst hl
  exact ⟨x0, x1, x2, x3, x4, x5, x6, x7, x8, x9, x10, x11, x12, x13, x14, x15, x16, x17, x18, x19, x20, x21, x22, x23, x24, x25, x26, x27, x28, x29, x30, x31, x32, x33, x34, x35, x36, rfl⟩
theorem bs_coin_run (w : World) (cs : Array Value) (hs : okAgg cs 37) : (bs_coin #[(0, .agg cs)]).run Try.prog w = .ok (.slice (some ⟨w.heap.size, 0, none⟩) 1 1) (w.alloc (.cells cs 57)) := by
  obtain ⟨x0, x1, x2, x3, x4, x5, x6, x7, x8, x9, x10, x11, x12, x13, x14, x15, x16, x17, x18, x19, x20, x21, x22, x23, x24, x25, x26, x27, x28, x29, x30, x31, x32, x33, x34, x35, x36, rfl⟩ := arr37 hs.1
  show (Instr.buildSlice 22 1 _).run Try.prog w = _
  kernel_rfl
attribute [local go_sem ↓] bs_coin_eq
attribute [local go_sem] bs_coin_run

/-- a row of one coin that has just been laid -/
theorem one_row (w : World) (m : Cm) (hp : m.c.p.ok) : Rd (w.alloc (.cells (cc m).toArray 57)) 37 (some ⟨w.heap.size, 0, none⟩) 1 (pcs [m]) := by
  have h := (Own.lit (base := 0) (e := 57) (size := 37) (G := fun _ => True) w (cc m).toArray 1 (Nat.zero_le _) (by decide) (by simpa using cc_length hp) (fun _ _ => trivial)).rd
  have e : pcs [m] = (cc m).toArray.toList := by rw [pcs_cons, pcs_nil, List.append_nil]
  rw [e]
  exact h

theorem take_next {α : Type} {l : List α} {j : Nat} {x : α} (h : l[j]? = some x) : l.take (j + 1) = l.take j ++ [x] := by
  have hj := (List.getElem?_eq_some_iff.1 h).1
  rw [List.take_succ_eq_append_getElem hj]
  rw [List.getElem?_eq_getElem hj] at h
  rw [Option.some.inj h]

set_option maxRecDepth 20000 in
set_option maxHeartbeats 1000000 in
theorem all_any (B : Option Addr) (n c : Nat) (hs : List Cm) (w : World) (hb : ArgP w B n c hs) (hn : n ≤ 100000000) :
    Calls Try.prog 57 #[.slice B n c] w fun e w' => ∃ A d gs, e = .returned (.slice A n d) ∧ cns gs = cns hs ∧ OwnP w' w.heap.size A n d gs ∧ Below w.heap.size w w' := by
  have hlen := hb.len
  have ML := Lib.hid (And.intro hlen hb)
  clear hlen
  go_enter Try.func57, Try.ntmps57
  go_wp2_with (fail)
  go_loopw [3, 8] (fun v i wr => ∃ j : Nat, j ≤ n ∧ i = .int .i64 j ∧ (∃ A k q gs, v = .slice A q k ∧ cns gs = cns (hs.take j) ∧ OwnP wr w.heap.size A q k gs) ∧ Below w.heap.size w wr) (fun _ i _ => n - (intOf i).toNat)
  case atStart => exact ⟨0, by omega, rfl, ⟨none, 0, 0, [], rfl, rfl, OwnP.nil _ _⟩, Below.refl _ _⟩
  case round =>
    obtain ⟨j, hj, rfl, ⟨A, k, q, gs, rfl, hgs, ho⟩, hbel⟩ := hrel
    by_cases hlt : j < n
    · obtain ⟨ad, m, rfl, hm, hok, hbk, hc⟩ := (hb.below hbel).at_ hlt
      have hq : q ≤ j := by
        have h1 := ho.len
        have h2 := congrArg List.length hgs
        rw [cns_length, cns_length, List.length_take] at h2
        omega
      have hld := ld_coin_at wr (ad.add (j * 37)) m hok.c.p hc
      have hz := hbel.size
      have hokm := cc_ok hok.c.p
      have sl := slot_self wr (.cells (cc zm).toArray 57) (cc m).toArray
      have hsn : cns (hs.take (j + 1)) = cns gs ++ [m.c] := by rw [take_next hm, cns_append, hgs]; rfl
      have X := Lib.hid (And.intro hsn (And.intro hok (And.intro ho hbel)))
      clear hc hm hgs hok ho hbel hsn
      go_wp2_with (fail)
      refine (copied_any m _ (X.out.2.1.below sl)).mono ?_
      rintro e w2 ⟨A2, k2, rfl, ho2, hb2⟩
      have b2 := bThen sl hb2
      have ho3 := X.out.2.2.1.below b2
      have hbel2 := bThen X.out.2.2.2 b2
      have hz2 := hbel2.size
      have hok2 := cc_ok (m := ⟨m.c, A2, k2⟩) X.out.2.1.c.p
      have l3 : Below w2.heap.size w2 (w2.alloc (.cells (cc ⟨m.c, A2, k2⟩).toArray 57)) := (Below.refl _ _).alloc (Nat.le_refl _) _
      have hz3 := (bThen hbel2 l3).size
      have o2 := OwnN.mono (OwnN.below ho2 l3) (show w.heap.size ≤ _ from Nat.le_trans hz sl.size)
      clear hld sl ho2 hb2
      go_wp2_with (at_builtin; refine Stop.mk ?_)
      refine Stop.out ?_
      refine wpList_appP _ rfl (.tmp 12) (.tmp 15) rfl w.heap.size A q k gs rfl (ho3.below l3) (some ⟨w2.heap.size, 0, none⟩) 1 1 [⟨m.c, A2, k2⟩] rfl (one_row w2 ⟨m.c, A2, k2⟩ X.out.2.1.c.p) rfl
        (fun y hy => by rcases List.mem_singleton.1 hy with rfl; exact ⟨X.out.2.1.c, o2, X.out.2.1.arg.len⟩) (by omega) hz3 ?_
      intro A4 k4 w4 ho4 hg4
      have hb4 : Below w.heap.size w w4 := (bThen hbel2 l3).grown hg4 hz3 (fun g hg => (Own.lt (ho3.below l3).row g hg).1)
      have H4 := Lib.hid (And.intro ho4 hb4)
      clear ho4 hb4 hg4 o2 l3 hz3 ho3 hbel2 b2
      go_wp2_with (fail)
      go_roundw
      case rel =>
        refine ⟨j + 1, by omega, by go_num, ⟨A4, k4, q + 1, gs ++ [⟨m.c, A2, k2⟩], rfl, ?_, H4.out.1⟩, H4.out.2⟩
        rw [X.out.1, cns_append]; rfl
      case measure => simp [intOf]; omega
    · obtain rfl : j = n := by omega
      have e : hs.take j = hs := List.take_of_length_le (by rw [ML.out.1]; exact Nat.le_refl _)
      rw [e] at hgs
      have hq : q = j := by
        have h1 := ho.len
        have h2 := congrArg List.length hgs
        rw [cns_length, cns_length, ML.out.1] at h2
        omega
      have H3 := Lib.hid (And.intro ho (And.intro hbel (And.intro hgs hq)))
      clear ho hbel e hgs hq
      go_wp2_with (fail)
      go_ret
      have hl := H3.out.2.2.2
      subst hl
      exact ⟨A, k, gs, rfl, H3.out.2.2.1, H3.out.1, H3.out.2.1⟩
end Go.Proofs.Ytofclanljhfkiaa
/- Room for coins, for pages; a copy of a row of coins. -/
namespace Go.Proofs.Ytofclanljhfkiaa
open Go.RowKit Go.Proofs En Co
set_option linter.unusedVariables false
set_option linter.unusedSimpArgs false
set_option maxRecDepth 20000
attribute [local go_sem] nil_bytes nil_coins

theorem inf_page : (Try.prog.info? 22).map (fun i => (i.zero.map Value.cells, i.size, i.bytes)) = some (some #[.slice none 0 0], 1, 24) := by kernel_rfl
theorem info_cells {e : TypeId} {cs : Array Value} {size bytes : Nat} (h : (Try.prog.info? e).map (fun i => (i.zero.map Value.cells, i.size, i.bytes)) = some (some cs, size, bytes)) :
    ∃ i z, Try.prog.info? e = some i ∧ i.zero = some z ∧ z.cells = cs ∧ i.size = size ∧ i.bytes = bytes := by
  cases hi : Try.prog.info? e with
  | none => rw [hi] at h; cases h
  | some i =>
    rw [hi] at h
    simp only [Option.map_some, Option.some.injEq, Prod.mk.injEq] at h
    obtain ⟨hz0, hsz, hby⟩ := h
    cases hz : i.zero with
    | none => rw [hz] at hz0; cases hz0
    | some z =>
      rw [hz] at hz0
      simp only [Option.map_some, Option.some.injEq] at hz0
      exact ⟨i, z, rfl, hz, hz0, hsz, hby⟩
/-- room that has been asked for -/
theorem own_room {w : World} {e : TypeId} {size : Nat} (z : Array Value) (hz : z.size = size) (hs : 0 < size) (n c : Nat) (hnc : n ≤ c) (hc : c ≤ maxLen) :
    Own (w.drew.alloc (.cells (Builtin.zeroCells z n ++ Builtin.zeroCells z (c - n)) e)) w.heap.size e size (fun _ => True) (some ⟨w.heap.size, 0, none⟩) 0 c [] := by
  refine ⟨by simp, .inr ⟨w.heap.size, _, rfl, Nat.le_refl _, heap_alloc_new w.drew _, Nat.zero_le _, hc, ?_, by simp, fun _ _ => trivial⟩⟩
  rw [Array.size_append, size_zeroCells, size_zeroCells, hz, ← Nat.add_mul]
  congr 1
  omega
set_option maxRecDepth 20000 in
set_option maxHeartbeats 1000000 in
theorem growC_any (n : Nat) (w : World) (hn : n ≤ 1000000000) :
    Calls Try.prog 93 #[.slice none 0 0, .int .i64 n] w fun e w' => ∃ A c, e = .returned (.slice A 0 c) ∧ Own w' w.heap.size 57 37 (fun _ => True) A 0 c [] ∧ Below w.heap.size w w' := by
  have wn : IntKind.i64.wrap (n : Int) = n := by rw [IntKind.wrap_i64]; omega
  rcases Nat.eq_zero_or_pos n with rfl | h0
  · go_enter Try.func93, Try.ntmps93
    go_wp2_with (fail)
    go_ret
    exact ⟨none, 0, rfl, Own.nil _ _ _ _ _, Below.refl _ _⟩
  · obtain ⟨i, z, hi, hz, hzc, hsz, hby⟩ := info_cells inf_coin
    have d1 : decide ((n : Int) < 0) = false := decide_eq_false (by omega)
    have d2 : decide ((n : Int) > 0) = true := decide_eq_true (by omega)
    have hzs : z.cells.size = 37 := by rw [hzc]; first | rfl | simpa using cc_length (m := zm) zeroPt_ok
    have hge := grownCap_ge w n 0 57
    have hmx := grownCap_le_maxLen w n 0 57 (by unfold maxLen; omega)
    have OR := (own_room (w := w) (e := 57) z.cells hzs (by decide) n (grownCap w n 0 57) hge hmx)
    have HR := (Go.Lib.run_append_nil_zeros (P := Try.prog) w 22 3 22 57 i z .i64 .i64 Try.underlying22 Try.underlying3 hi hz n h0 (by rw [hsz]; decide) (by omega) (by rw [hby]; omega))
    have hb : Below w.heap.size w (w.drew.alloc (.cells (Builtin.zeroCells z.cells n ++ Builtin.zeroCells z.cells (grownCap w n 0 57 - n)) 57)) := ((Below.refl _ _).drew).alloc (Nat.le_refl _) _
    generalize grownCap w n 0 57 = k at *
    generalize w.drew.alloc (.cells (Builtin.zeroCells z.cells n ++ Builtin.zeroCells z.cells (k - n)) 57) = w1 at OR HR hb
    have OR := Lib.hid OR
    have HR := Lib.hid HR
    have BL := Lib.hid hb
    clear hb hi hz hzc hsz hby hzs
    go_enter Try.func93, Try.ntmps93
    go_wp2_with (at_builtin; refine Go.Lib.wpList_append_run _ rfl _ _ _ _ rfl _ _ rfl rfl _ _ HR.out ?_)
    go_wp2_with (fail)
    go_ret
    exact ⟨some ⟨w.heap.size, 0, none⟩, k, rfl, OR.out, BL.out⟩

set_option maxRecDepth 20000 in
set_option maxHeartbeats 1000000 in
theorem growP_any (n : Nat) (w : World) (hn : n ≤ 1000000000) :
    Calls Try.prog 119 #[.slice none 0 0, .int .i64 n] w fun e w' => ∃ A c, e = .returned (.slice A 0 c) ∧ Own w' w.heap.size 22 1 (fun _ => True) A 0 c [] ∧ Below w.heap.size w w' := by
  have wn : IntKind.i64.wrap (n : Int) = n := by rw [IntKind.wrap_i64]; omega
  rcases Nat.eq_zero_or_pos n with rfl | h0
  · go_enter Try.func119, Try.ntmps119
    go_wp2_with (fail)
    go_ret
    exact ⟨none, 0, rfl, Own.nil _ _ _ _ _, Below.refl _ _⟩
  · obtain ⟨i, z, hi, hz, hzc, hsz, hby⟩ := info_cells inf_page
    have d1 : decide ((n : Int) < 0) = false := decide_eq_false (by omega)
    have d2 : decide ((n : Int) > 0) = true := decide_eq_true (by omega)
    have hzs : z.cells.size = 1 := by rw [hzc]; first | rfl | simpa using cc_length (m := zm) zeroPt_ok
    have hge := grownCap_ge w n 0 22
    have hmx := grownCap_le_maxLen w n 0 22 (by unfold maxLen; omega)
    have OR := (own_room (w := w) (e := 22) z.cells hzs (by decide) n (grownCap w n 0 22) hge hmx)
    have HR := (Go.Lib.run_append_nil_zeros (P := Try.prog) w 27 3 27 22 i z .i64 .i64 Try.underlying27 Try.underlying3 hi hz n h0 (by rw [hsz]; decide) (by omega) (by rw [hby]; omega))
    have hb : Below w.heap.size w (w.drew.alloc (.cells (Builtin.zeroCells z.cells n ++ Builtin.zeroCells z.cells (grownCap w n 0 22 - n)) 22)) := ((Below.refl _ _).drew).alloc (Nat.le_refl _) _
    generalize grownCap w n 0 22 = k at *
    generalize w.drew.alloc (.cells (Builtin.zeroCells z.cells n ++ Builtin.zeroCells z.cells (k - n)) 22) = w1 at OR HR hb
    have OR := Lib.hid OR
    have HR := Lib.hid HR
    have BL := Lib.hid hb
    clear hb hi hz hzc hsz hby hzs
    go_enter Try.func119, Try.ntmps119
    go_wp2_with (at_builtin; refine Go.Lib.wpList_append_run _ rfl _ _ _ _ rfl _ _ rfl rfl _ _ HR.out ?_)
    go_wp2_with (fail)
    go_ret
    exact ⟨some ⟨w.heap.size, 0, none⟩, k, rfl, OR.out, BL.out⟩
end Go.Proofs.Ytofclanljhfkiaa
