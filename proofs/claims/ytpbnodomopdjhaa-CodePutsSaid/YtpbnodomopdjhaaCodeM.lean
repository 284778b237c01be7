/- Scripts as bytes, in plain Lean: what layer 11 computes, and the laws of it. A step is its kind and its bytes. -/
import Derived.Test.YtpbnodomopdjhaaEndsM
namespace Go.Proofs.Ytpbnodomopdjhaa.Cd
open En
set_option linter.unusedVariables false
set_option linter.unusedSimpArgs false

abbrev Stp := Int × List Int
def mayF (s : Stp) : Bool := if s.1 = 1 then decide (s.2.length ≤ 3000) else decide (2 ≤ s.1 ∧ s.1 ≤ 20 ∧ s.2.length = 0)
def oneF (s : Stp) : List Int :=
  if s.1 = 1 then (if s.2.length ≤ 127 then (s.2.length : Int) :: s.2 else 128 :: (s.2.length : Int) % 256 :: (s.2.length : Int) / 256 :: s.2) else [127 + s.1]
def allF (l : List Stp) : List Int := l.flatMap oneF
def putF (l : List Stp) : List Int × Int := if l.all mayF = true then (if l.length ≤ 200 then (allF l, 0) else ([], 3)) else ([], 2)
/-- the part of a push: its bytes stand from 'from' on -/
def pushF (b : List Int) (fr n : Nat) : Stp × Nat × Int := if b.length < fr + n then ((0, []), 0, 4) else ((1, (b.drop fr).take n), fr + n, 0)
def longF (b : List Int) : Int := b.getD 1 0 + 256 * b.getD 2 0
/-- the step at the head of bytes, how many bytes it has, an error's number -/
def stepF (b : List Int) : Stp × Nat × Int :=
  if b.getD 0 0 < 128 then pushF b 1 (b.getD 0 0).toNat
  else if b.getD 0 0 = 128 then
    (if b.length < 3 then ((0, []), 0, 4)
     else if longF b < 128 ∨ 3000 < longF b then ((0, []), 0, 5)
     else pushF b 3 (longF b).toNat)
  else if b.getD 0 0 ≤ 147 then ((b.getD 0 0 - 127, []), 1, 0)
  else ((0, []), 0, 5)
/-- the rest of a script: so many rounds at most, the steps that were read, the bytes to read -/
def readF : Nat → List Stp → List Int → List Stp × Int
  | _, acc, [] => (acc, 0)
  | 0, _, _ :: _ => ([], 5)
  | k + 1, acc, x :: b =>
    if acc.length = 200 then ([], 3)
    else if (stepF (x :: b)).2.2 = 0 then readF k (acc ++ [(stepF (x :: b)).1]) ((x :: b).drop (stepF (x :: b)).2.1)
    else ([], (stepF (x :: b)).2.2)
def readAll (b : List Int) : List Stp × Int := readF b.length [] b

theorem pushF_pos {b : List Int} {fr n : Nat} (h : (pushF b fr n).2.2 = 0) : fr + n ≤ b.length ∧ pushF b fr n = ((1, (b.drop fr).take n), fr + n, 0) := by
  unfold pushF at *
  split at h
  · cases h
  · rename_i h1
    exact ⟨by omega, by rw [if_neg h1]⟩
theorem stepF_pos {b : List Int} (h : (stepF b).2.2 = 0) : 0 < (stepF b).2.1 ∧ ((stepF b).2.1 ≤ b.length ∨ b = []) := by
  unfold stepF at *
  split at h
  · rename_i h1
    obtain ⟨h2, h3⟩ := pushF_pos h
    rw [if_pos h1, h3]
    exact ⟨by show 0 < 1 + _; omega, .inl h2⟩
  · rename_i h1
    split at h
    · rename_i h2
      split at h
      · cases h
      · rename_i h3
        split at h
        · cases h
        · rename_i h4
          obtain ⟨h5, h6⟩ := pushF_pos h
          rw [if_neg h1, if_pos h2, if_neg h3, if_neg h4, h6]
          exact ⟨by show 0 < 3 + _; omega, .inl h5⟩
    · rename_i h2
      split at h
      · rename_i h3
        rw [if_neg h1, if_neg h2, if_pos h3]
        refine ⟨Nat.one_pos, ?_⟩
        cases b with
        | nil => exact .inr rfl
        | cons x b => exact .inl (by simp)
      · cases h
/-- more rounds than bytes do not matter -/
theorem readF_more : ∀ (k m : Nat) (acc : List Stp) (b : List Int), b.length ≤ k → b.length ≤ m → readF k acc b = readF m acc b := by
  intro k
  induction k with
  | zero =>
    intro m acc b h1 h2
    cases b with
    | nil => cases m <;> rfl
    | cons x b => simp at h1
  | succ k ih =>
    intro m acc b h1 h2
    cases b with
    | nil => cases m <;> rfl
    | cons x b =>
      cases m with
      | zero => simp at h2
      | succ m =>
        unfold readF
        split
        · rfl
        · split
          · rename_i h3
            have h4 := (stepF_pos h3).1
            simp only [List.length_cons] at h1 h2
            refine ih m _ _ ?_ ?_ <;> simp only [List.length_drop, List.length_cons] <;> omega
          · rfl
#print axioms readF_more
end Go.Proofs.Ytpbnodomopdjhaa.Cd
