/- Coins in memory; what Same answers, in the program and in the reference. -/
import Derived.Test.YtejablcdpakgoaaCoinC
import Derived.Test.YtejablcdpakgoaaBig
namespace Go.Proofs.Ytejablcdpakgoaa
open Go.RowKit Go.Proofs En Co
set_option linter.unusedVariables false
set_option linter.unusedSimpArgs false

/-- a coin as it lies in memory: what it is, and where its lock lies -/
structure Cm where
  c : Cn
  A : Option Addr
  k : Nat
def Cm.lk (m : Cm) : Value := .slice m.A m.c.l.length m.k
def cc (m : Cm) : List Value := pc m.c.p ++ [.int .u64 m.c.v, .bool m.c.base, m.lk]
structure Cm.ok (w : World) (m : Cm) : Prop where
  c : m.c.ok
  arg : Arg w m.A m.c.l.length m.k m.c.l
theorem Cm.ok.below {w w' : World} {m : Cm} (h : m.ok w) (hb : Below w.heap.size w w') : m.ok w' := ⟨h.c, h.arg.below hb⟩
theorem cc_length {m : Cm} (h : m.c.p.ok) : (cc m).length = 37 := by unfold cc; rw [List.length_append, pc_length h]; rfl
theorem cc_get {m : Cm} (h : m.c.p.ok) : (cc m)[34]? = some (.int .u64 m.c.v) ∧ (cc m)[35]? = some (.bool m.c.base) ∧ (cc m)[36]? = some m.lk := by
  have hl := pc_length h
  unfold cc
  refine ⟨?_, ?_, ?_⟩ <;> rw [List.getElem?_append_right (by omega), hl] <;> rfl
theorem cc_cells {w : World} {m : Cm} (h : m.c.p.ok) {g : Nat} {t : TypeId} (hg : w.heap[g]? = some (.cells (cc m).toArray t (0, 0))) :
    w.cell? ⟨g, 34, none⟩ = some (.int .u64 m.c.v) ∧ w.cell? ⟨g, 35, none⟩ = some (.bool m.c.base) ∧ w.cell? ⟨g, 36, none⟩ = some m.lk ∧ w.rangeAt g 0 (pc m.c.p) := by
  obtain ⟨h1, h2, h3⟩ := cc_get h
  refine ⟨?_, ?_, ?_, fun j v hv => ?_⟩
  · rw [cell_of_row w g 34 _ _ _ hg]; simpa using h1
  · rw [cell_of_row w g 35 _ _ _ hg]; simpa using h2
  · rw [cell_of_row w g 36 _ _ _ hg]; simpa using h3
  · rw [Nat.zero_add, cell_of_row w g j _ _ _ hg]
    have : (cc m)[j]? = some v := by unfold cc; rw [List.getElem?_append_left ((List.getElem?_eq_some_iff.1 hv).1)]; exact hv
    simpa using this
theorem pc_one (p : Pt) : ∀ u ∈ pc p, u.oneCell' = true := by
  intro u hu
  unfold pc at hu
  rcases List.mem_append.1 hu with hu | hu
  · exact num_one (ns_num _ _ u hu)
  · rcases List.mem_cons.1 hu with rfl | hu
    · rfl
    · rcases List.mem_singleton.1 hu with rfl; rfl
theorem cc_one (m : Cm) : ∀ u ∈ cc m, u.oneCell' = true := by
  intro u hu
  unfold cc at hu
  rcases List.mem_append.1 hu with hu | hu
  · exact pc_one _ u hu
  · rcases List.mem_cons.1 hu with rfl | hu
    · rfl
    · rcases List.mem_cons.1 hu with rfl | hu
      · rfl
      · rcases List.mem_singleton.1 hu with rfl; rfl
theorem ns_inj {xs ys : List Int} {k : IntKind} (h : ns k xs = ns k ys) : xs = ys := by
  unfold ns at h
  induction xs generalizing ys with
  | nil => cases ys with
    | nil => rfl
    | cons y ys => cases h
  | cons x xs ih => cases ys with
    | nil => cases h
    | cons y ys =>
      simp only [List.map_cons, List.cons.injEq, Value.int.injEq, true_and] at h
      rw [h.1, ih h.2]
theorem three_of {α β : Type} {g : α → β} {l : List α} {x y z : β} (h : l.map g = [x, y, z]) : ∃ a b c, l = [a, b, c] ∧ g a = x ∧ g b = y ∧ g c = z := by
  match l, h with
  | [a, b, c], h =>
    simp only [List.map_cons, List.map_nil, List.cons.injEq, and_true] at h
    exact ⟨a, b, c, rfl, h.1, h.2.1, h.2.2⟩

theorem size_pt : (Try.prog.info? 27).map (·.size) = some 34 := by kernel_rfl
theorem size_coin : (Try.prog.info? 31).map (·.size) = some 37 := by kernel_rfl
theorem size_hash : (Try.prog.info? 23).map (·.size) = some 32 := by kernel_rfl
theorem size_u8 : (Try.prog.info? 5).map (·.size) = some 1 := by kernel_rfl

theorem run_part_row {P : Program} (w : World) (t : TypeId) (d : TypeDesc) (hu : P.underlying t = some d) (hd : (match d with | .struct _ | .array _ _ => true | _ => false) = true) (n : Nat) (hi : (P.info? t).map (·.size) = some n) (cs : Array Value) (o : Nat) :
    (part t cs o).run P w = .ok (.agg (cs.extract o (o + n))) w := by
  have hagg : (isAgg t).run P w = .ok true w := by
    unfold isAgg
    rw [Sem.run_bind, run_underlying hu w]
    cases d <;> simp_all
  cases hq : P.info? t with
  | none => simp [hq] at hi
  | some i =>
    have hs : i.size = n := by simpa [hq] using hi
    simp [part, Sem.run_bind, hagg, sizeOf, typeInfo, hq, hs]
theorem run_part_cell {P : Program} (w : World) (t : TypeId) (d : TypeDesc) (hu : P.underlying t = some d) (hd : (match d with | .struct _ | .array _ _ => true | _ => false) = false) (cs : Array Value) (o : Nat) (v : Value) (hv : cs[o]? = some v) :
    (part t cs o).run P w = .ok v w := by
  have hagg : (isAgg t).run P w = .ok false w := by
    unfold isAgg
    rw [Sem.run_bind, run_underlying hu w]
    cases d <;> simp_all
  simp [part, Sem.run_bind, hagg, hv]

theorem eqFields_cons {P : Program} (w : World) (d : Nat) (xs ys : Array Value) (f : Field) (fs : List Field) (x y : Value) (r : Bool) (hn : f.name ≠ "_") (hx : (part f.type xs f.offset).run P w = .ok x w) (hy : (part f.type ys f.offset).run P w = .ok y w)
    (hr : (Op.equalIn d f.type x y).run P w = .ok r w) : (Op.eqFields d xs ys (f :: fs)).run P w = if r = true then (Op.eqFields d xs ys fs).run P w else .ok false w := by
  show (ite (f.name ≠ "_") _ _ : Sem Bool).run P w = _
  rw [if_pos hn]
  simp only [Sem.run_bind, hx, hy, hr, Result.andThen_ok]
  cases r <;> rfl
theorem eqIn_pt (d : Nat) (w : World) (a b : Pt) (ha : a.ok) (hb : b.ok) : (Op.equalIn (d + 3) 27 (.agg (pc a).toArray) (.agg (pc b).toArray)).run Try.prog w = .ok (decide (a = b)) w := by
  rw [show d + 3 = (d + 2) + 1 from rfl, run_equalIn_agg w (d + 2) 27 _ _ (by kernel_rfl) (by kernel_rfl)]
  have hex : ∀ p : Pt, p.ok → (pc p).toArray.extract 0 (0 + 32) = (ns .u8 p.tx).toArray := by
    intro p hp
    unfold pc
    apply Array.ext'
    simp [ns_length, hp.len]
  have fs : (Try.prog.fieldsOf 27).toList.map (fun f => (f.name, f.type, f.offset)) = [("Tx", 23, 0), ("N", 24, 32), ("Height", 25, 33)] := by kernel_rfl
  obtain ⟨f0, f1, f2, hl, e0, e1, e2⟩ := three_of fs
  rw [hl]
  simp only [Prod.mk.injEq] at e0 e1 e2
  obtain ⟨n0, t0, o0⟩ := e0
  obtain ⟨n1, t1, o1⟩ := e1
  obtain ⟨n2, t2, o2⟩ := e2
  have q0 : ("Tx" : String) ≠ "_" := by decide
  have q1 : ("N" : String) ≠ "_" := by decide
  have q2 : ("Height" : String) ≠ "_" := by decide
  have pn : ∀ p : Pt, p.ok → (pc p).toArray[32]? = some (.int .u16 p.n) := fun p hp => by simpa using pc_n hp
  have ph : ∀ p : Pt, p.ok → (pc p).toArray[33]? = some (.int .u32 p.h) := fun p hp => by simpa using pc_h hp
  have i1 := run_equalIn_int w (d + 1) 24 .u16 .u16 a.n b.n Try.underlying24
  have i2 := run_equalIn_int w (d + 1) 25 .u32 .u32 a.h b.h Try.underlying25
  have i0 := run_equalIn_bytes w d 23 5 32 Try.underlying23 Try.underlying5 size_u8 a.tx b.tx ha.len hb.len
  have pa := run_part_row w 23 _ Try.underlying23 rfl 32 size_hash (pc a).toArray 0
  have pb := run_part_row w 23 _ Try.underlying23 rfl 32 size_hash (pc b).toArray 0
  have pa1 := run_part_cell w 24 _ Try.underlying24 rfl _ 32 _ (pn a ha)
  have pb1 := run_part_cell w 24 _ Try.underlying24 rfl _ 32 _ (pn b hb)
  have pa2 := run_part_cell w 25 _ Try.underlying25 rfl _ 33 _ (ph a ha)
  have pb2 := run_part_cell w 25 _ Try.underlying25 rfl _ 33 _ (ph b hb)
  rw [hex a ha] at pa
  rw [hex b hb] at pb
  generalize Try.prog = P at *
  generalize (pc a).toArray = ca at *
  generalize (pc b).toArray = cb at *
  rw [eqFields_cons w (d + 2) ca cb f0 [f1, f2] _ _ _ (by rw [n0]; exact q0) (by rw [t0, o0]; exact pa) (by rw [t0, o0]; exact pb) (by rw [t0]; exact i0)]
  rw [eqFields_cons w (d + 2) ca cb f1 [f2] _ _ _ (by rw [n1]; exact q1) (by rw [t1, o1]; exact pa1) (by rw [t1, o1]; exact pb1) (by rw [t1]; exact i1)]
  rw [eqFields_cons w (d + 2) ca cb f2 [] _ _ _ (by rw [n2]; exact q2) (by rw [t2, o2]; exact pa2) (by rw [t2, o2]; exact pb2) (by rw [t2]; exact i2)]
  have hend : (Op.eqFields (d + 2) ca cb []).run P w = .ok true w := rfl
  rw [hend]
  have hiff : a = b ↔ a.tx = b.tx ∧ a.n = b.n ∧ a.h = b.h := Pt.ext_iff
  by_cases h1 : a.tx = b.tx
  · by_cases h2 : a.n = b.n
    · by_cases h3 : a.h = b.h
      · rw [decide_eq_true h1, if_pos rfl, if_pos (beq_iff_eq.2 h2), if_pos (beq_iff_eq.2 h3), decide_eq_true (hiff.2 ⟨h1, h2, h3⟩)]
      · rw [decide_eq_true h1, if_pos rfl, if_pos (beq_iff_eq.2 h2), if_neg (fun h => h3 (beq_iff_eq.1 h)), decide_eq_false (fun h => h3 (hiff.1 h).2.2)]
    · rw [decide_eq_true h1, if_pos rfl, if_neg (fun h => h2 (beq_iff_eq.1 h)), decide_eq_false (fun h => h2 (hiff.1 h).2.1)]
  · rw [decide_eq_false h1, if_neg (by decide), decide_eq_false (fun h => h1 (hiff.1 h).1)]
theorem guard_pt (op : BinOp) (x y : Operand) (w : World) (cs ds : Array Value) : (eqGuard op 27 x y (.agg cs) (.agg ds)).run Try.prog w = .ok () w :=
  run_eqGuard_agg w op 27 x y cs ds (by kernel_rfl)
theorem eq_pt (w : World) (a b : Pt) (ha : a.ok) (hb : b.ok) : (binOp .eql 27 (.agg (pc a).toArray) (.agg (pc b).toArray)).run Try.prog w = .ok (.bool (decide (a = b))) w := by
  rw [run_eql_struct, show (10000 : Nat) = 9997 + 3 from rfl, eqIn_pt 9997 w a b ha hb]
  rfl
theorem ne_pt (w : World) (a b : Pt) (ha : a.ok) (hb : b.ok) : (binOp .neq 27 (.agg (pc a).toArray) (.agg (pc b).toArray)).run Try.prog w = .ok (.bool (!decide (a = b))) w := by
  rw [run_neq_struct, show (10000 : Nat) = 9997 + 3 from rfl, eqIn_pt 9997 w a b ha hb]
  rfl
end Go.Proofs.Ytejablcdpakgoaa
