/- Rules for the walk: a new variable for a point, for a coin, under a name of its own. -/
import Derived.Test.YtejablcdpakgoaaCoinK
namespace Go.Proofs.Ytejablcdpakgoaa
open Go.RowKit Go.Proofs En Co
set_option linter.unusedVariables false
set_option linter.unusedSimpArgs false

/-- the zero coin's, the zero point's cells -/
def zm : Cm := ⟨zeroCn, none, 0⟩
def al_coin : Sem Value := Instr.alloc 31 true (.tuple #[])
theorem al_coin_eq : Instr.alloc 31 true (.tuple #[]) = al_coin := rfl
theorem al_coin_run (w : World) : al_coin.run Try.prog w = .ok (.pointer (some ⟨w.heap.size, 0, none⟩)) (w.alloc (.cells (cc zm).toArray 31)) := by
  show (Instr.alloc 31 true (.tuple #[])).run Try.prog w = _
  kernel_rfl
theorem al_coin_row (w : World) : rowIs (w.alloc (.cells (cc zm).toArray 31)) w.heap.size 37 := rowIs_new w _ _ 37 (by decide)
def al_point : Sem Value := Instr.alloc 27 true (.tuple #[])
theorem al_point_eq : Instr.alloc 27 true (.tuple #[]) = al_point := rfl
theorem al_point_run (w : World) : al_point.run Try.prog w = .ok (.pointer (some ⟨w.heap.size, 0, none⟩)) (w.alloc (.cells (pc zeroPt).toArray 27)) := by
  show (Instr.alloc 27 true (.tuple #[])).run Try.prog w = _
  kernel_rfl
theorem al_point_row (w : World) : rowIs (w.alloc (.cells (pc zeroPt).toArray 27)) w.heap.size 34 := rowIs_new w _ _ 34 (by decide)
end Go.Proofs.Ytejablcdpakgoaa
