/- Where a walk is to stand at an operation on a whole struct; results that lie in a cell. For whatever program. -/
import Derived.Test.YtejablcdpakgoaaEqual
import Derived.Deep.MidRow
namespace Go.Proofs.Ytejablcdpakgoaa
open Go.RowKit Go.Proofs
set_option linter.unusedVariables false
set_option linter.unusedSimpArgs false

section
variable {P : Program} {ops : Array Oper} {Q : Exit → Act → World → Prop} {rest : List Oper} {a : Act} {w : World} {d : Option Tmp} {ty : TypeId} {pos : String} {after : Array Edge}
theorem at_load (T : TypeId) {x : Operand} (h : Stop (wpList P ops Q ({ dst := d, op := .load T x, type := ty, pos := pos, after := after, guard := none } :: rest) a w)) : wpList P ops Q ({ dst := d, op := .load T x, type := ty, pos := pos, after := after, guard := none } :: rest) a w := h
theorem at_store (T : TypeId) {x y : Operand} (h : Stop (wpList P ops Q ({ dst := d, op := .store T x y, type := ty, pos := pos, after := after, guard := none } :: rest) a w)) : wpList P ops Q ({ dst := d, op := .store T x y, type := ty, pos := pos, after := after, guard := none } :: rest) a w := h
theorem at_build (T : TypeId) {ps : Array (Nat × Operand)} (h : Stop (wpList P ops Q ({ dst := d, op := .build T ps, type := ty, pos := pos, after := after, guard := none } :: rest) a w)) : wpList P ops Q ({ dst := d, op := .build T ps, type := ty, pos := pos, after := after, guard := none } :: rest) a w := h
theorem at_bin (b : BinOp) (T : TypeId) {x y : Operand} {yt : TypeId} (h : Stop (wpList P ops Q ({ dst := d, op := .binOp b T x y yt, type := ty, pos := pos, after := after, guard := none } :: rest) a w)) : wpList P ops Q ({ dst := d, op := .binOp b T x y yt, type := ty, pos := pos, after := after, guard := none } :: rest) a w := h
theorem at_op {o : Oper} (t : Nat) (ho : o.dst = some t) (h : Stop (wpList P ops Q (o :: rest) a w)) : wpList P ops Q (o :: rest) a w := h

theorem wpList_val {o : Oper} {w' : World} (hgd : o.guard = none) (v : Value) (hr : (execOp a.eval o).run P w = .ok (.value v) w') (h : wpList P ops Q rest (a.put o.dst v) w') : wpList P ops Q (o :: rest) a w := by
  refine wpList_plain hgd fun K hK => ?_
  unfold Oper.wp
  rw [hr]
  exact hK _ _ h
theorem wpList_eqagg {o : Oper} (hgd : o.guard = none) (T yt : TypeId) (x y : Operand) (ho : o.op = .binOp .eql T x y yt) (cs ds : Array Value) (hx : a.eval x = .agg cs) (hy : a.eval y = .agg ds) (r : Bool)
    (hg : (eqGuard .eql T x y (.agg cs) (.agg ds)).run P w = .ok () w) (hr : (binOp .eql T (.agg cs) (.agg ds)).run P w = .ok (.bool r) w) (h : wpList P ops Q rest (a.put o.dst (.bool r)) w) : wpList P ops Q (o :: rest) a w := by
  refine wpList_plain hgd fun K hK => ?_
  unfold Oper.wp execOp
  simp only [ho, hx, hy, Sem.run_bind, Sem.run_pure, Result.andThen_ok, hg, hr]
  exact hK _ _ h
theorem wpList_neagg {o : Oper} (hgd : o.guard = none) (T yt : TypeId) (x y : Operand) (ho : o.op = .binOp .neq T x y yt) (cs ds : Array Value) (hx : a.eval x = .agg cs) (hy : a.eval y = .agg ds) (r : Bool)
    (hg : (eqGuard .neq T x y (.agg cs) (.agg ds)).run P w = .ok () w) (hr : (binOp .neq T (.agg cs) (.agg ds)).run P w = .ok (.bool r) w) (h : wpList P ops Q rest (a.put o.dst (.bool r)) w) : wpList P ops Q (o :: rest) a w := by
  refine wpList_plain hgd fun K hK => ?_
  unfold Oper.wp execOp
  simp only [ho, hx, hy, Sem.run_bind, Sem.run_pure, Result.andThen_ok, hg, hr]
  exact hK _ _ h
end

/-- a row that has been written whole -/
theorem below_setRow {B : Nat} {a w : World} (h : Below B a w) {g : Nat} (hg : B ≤ g) (hz : B ≤ w.heap.size) (cs : Array Value) : Below B a (w.setRow g cs) :=
  h.grown (row := some g) ⟨rfl, rfl, rfl, by simp, fun k _ hk => setRow_other w g k _ (fun e => hk (by rw [e]))⟩ hz (fun k hk => by injection hk with hk; omega)

section
variable {P : Program} {fn : Func} {w : World} {tmps : Array Value}
theorem res_cell3 {c i j : Tmp} {T : TypeId} {v : Value} {ad : Addr} (hf : fn.results = #[.cell c T, .tmp i, .tmp j]) (hc : tmps.getD c undef = .pointer (some ad)) (hl : (loadVar T ad).run P w = .ok v w) :
    (results fn tmps).run P w = .ok (.tuple #[v, tmps.getD i undef, tmps.getD j undef]) w := by
  have hc' := hc
  simp at hc'
  simp only [results, hf, Sem.run_bind]
  simp [List.mapM_cons, Sem.run_bind, hc', asAddr, hl]
theorem res_cell2 {c i : Tmp} {T : TypeId} {v : Value} {ad : Addr} (hf : fn.results = #[.cell c T, .tmp i]) (hc : tmps.getD c undef = .pointer (some ad)) (hl : (loadVar T ad).run P w = .ok v w) :
    (results fn tmps).run P w = .ok (.tuple #[v, tmps.getD i undef]) w := by
  have hc' := hc
  simp at hc'
  simp only [results, hf, Sem.run_bind]
  simp [List.mapM_cons, Sem.run_bind, hc', asAddr, hl]
theorem res_cell1 {c : Tmp} {T : TypeId} {v : Value} {ad : Addr} (hf : fn.results = #[.cell c T]) (hc : tmps.getD c undef = .pointer (some ad)) (hl : (loadVar T ad).run P w = .ok v w) :
    (results fn tmps).run P w = .ok v w := by
  have hc' := hc
  simp at hc'
  simp only [results, hf, Sem.run_bind]
  simp [List.mapM_cons, Sem.run_bind, hc', asAddr, hl]
end
end Go.Proofs.Ytejablcdpakgoaa
