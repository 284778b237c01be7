/- Arguments of a statement, opened: bytes, numbers, truths. -/
import Derived.Test.YtejablcdpakgoaaOpen
import Derived.Lib.SmallJoins
namespace Go.Proofs.Ytejablcdpakgoaa
open Go.RowKit Go.Proofs En Go.ChangeShapes Go.WideShapes Go.Joins
set_option linter.unusedVariables false
set_option linter.unusedSimpArgs false

section
variable {H : Type} {enc : TypeId × Value → H} {W : World} {base : Nat} {v : Value} {d : DataW H} {ps : List MemPlace}
theorem arg_bytes (hval : Value.okWide Try.prog W .any base 29 v) (h : DataW.Trod enc Try.prog W 0 (fun _ => true) true 29 v d ps) (hs : Small Try.prog 29 d) :
    ∃ A n c b, v = .slice A n c ∧ (Arg W A n c b ∧ c ≤ 140737488351232) := by
  obtain ⟨A, n, c, rfl⟩ := okWide_slice Try.underlying29 hval
  obtain ⟨fuel, hf⟩ := h
  obtain ⟨A', n', c', b, he, h1, h2⟩ := open_bytes Try.underlying29 Try.underlying5 (by kernel_rfl) (by kernel_rfl) hf hs
  injection he with e1 e2 e3
  subst e1 e2 e3
  exact ⟨_, _, _, b, rfl, h1, h2⟩
end
end Go.Proofs.Ytejablcdpakgoaa
