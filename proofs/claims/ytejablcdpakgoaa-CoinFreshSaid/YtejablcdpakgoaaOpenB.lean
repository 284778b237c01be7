/- Arguments of a statement, opened: bytes, numbers, truths. -/
import Derived.Test.YtejablcdpakgoaaOpen
import Derived.Lib.SmallJoins
namespace Go.Proofs.Ytejablcdpakgoaa
open Go.RowKit Go.Proofs En Go.ChangeShapes Go.WideShapes Go.Joins
set_option linter.unusedVariables false
set_option linter.unusedSimpArgs false

section
variable {H : Type} {enc : TypeId × Value → H} {W : World} {base : Nat} {v : Value} {d : DataW H} {ps : List MemPlace}
theorem arg_bytes (hval : Value.okWide Try.prog W .any base 29 v) (h : DataW.Trod enc Try.prog W 0 (fun _ => true) true 29 v d ps) (hs : Small Try.prog 29 d) :
    ∃ A n c b, v = .slice A n c ∧ (Arg W A n c b ∧ c ≤ 140737488351232) := by
  obtain ⟨A, n, c, rfl⟩ := okWide_slice Try.underlying29 hval
  obtain ⟨fuel, hf⟩ := h
  obtain ⟨A', n', c', b, he, h1, h2⟩ := open_bytes Try.underlying29 Try.underlying5 (by kernel_rfl) (by kernel_rfl) hf hs
  injection he with e1 e2 e3
  subst e1 e2 e3
  exact ⟨_, _, _, b, rfl, h1, h2⟩
theorem arg_i64 (hval : Value.okWide Try.prog W .any base 3 v) (h : DataW.Trod enc Try.prog W 0 (fun _ => true) true 3 v d ps) (hs : Small Try.prog 3 d) :
    ∃ a, v = .int .i64 a ∧ (-9223372036854775808 ≤ a ∧ a ≤ 9223372036854775807) := by
  obtain ⟨a, rfl, rfl, rfl, hw⟩ := open_int Try.underlying3 hval h
  refine ⟨a, rfl, ?_⟩
  have h1 : IntKind.i64.min = -9223372036854775808 := rfl
  have h2 : IntKind.i64.max = 9223372036854775807 := rfl
  simp only [Lit.wf, Bool.and_eq_true, decide_eq_true_eq] at hw
  omega
theorem arg_u8 (hval : Value.okWide Try.prog W .any base 5 v) (h : DataW.Trod enc Try.prog W 0 (fun _ => true) true 5 v d ps) (hs : Small Try.prog 5 d) :
    ∃ a, v = .int .u8 a ∧ (0 ≤ a ∧ a ≤ 255) := by
  obtain ⟨a, rfl, rfl, rfl, hw⟩ := open_int Try.underlying5 hval h
  refine ⟨a, rfl, ?_⟩
  have h1 : IntKind.u8.min = 0 := rfl
  have h2 : IntKind.u8.max = 255 := rfl
  simp only [Lit.wf, Bool.and_eq_true, decide_eq_true_eq] at hw
  omega
theorem arg_bool (hval : Value.okWide Try.prog W .any base 4 v) (h : DataW.Trod enc Try.prog W 0 (fun _ => true) true 4 v d ps) (hs : Small Try.prog 4 d) :
    ∃ a, v = .bool a ∧ True := by
  obtain ⟨a, rfl, _⟩ := open_bool Try.underlying4 hval h
  exact ⟨a, rfl, trivial⟩
end
end Go.Proofs.Ytejablcdpakgoaa
