/- What the second form's bound gives of a slice. -/
import Derived.Test.YtejablcdpakgoaaRows
namespace Go.Proofs.Ytejablcdpakgoaa
open Go.Proofs

theorem bulk_pos {H : Type} (d : DataW H) : 1 ≤ Rows.uptoBulk d := by
  cases d with
  | lit l => cases l <;> simp [Rows.uptoBulk]
  | _ => simp [Rows.uptoBulk]
theorem bulk_len {H : Type} (l : List (DataW H)) : l.length ≤ Rows.uptoBulkAll l := by
  induction l with
  | nil => exact Nat.zero_le _
  | cons x r ih =>
    have := bulk_pos x
    simp only [Rows.uptoBulkAll, List.length_cons]
    omega
theorem bulk_lenE {H : Type} (l : List (Lit × DataW H)) : l.length ≤ Rows.uptoBulkEntries l := by
  induction l with
  | nil => exact Nat.zero_le _
  | cons x r ih =>
    have : 1 ≤ Rows.uptoBulkEntry x := by
      obtain ⟨a, d⟩ := x
      cases a <;> simp [Rows.uptoBulkEntry]
    simp only [Rows.uptoBulkEntries, List.length_cons]
    omega
theorem bulk_at {H : Type} {l : List (DataW H)} {j : Nat} {d : DataW H} (h : l[j]? = some d) : Rows.uptoBulk d ≤ Rows.uptoBulkAll l := by
  induction l generalizing j with
  | nil => simp at h
  | cons x r ih =>
    simp only [Rows.uptoBulkAll]
    cases j with
    | zero =>
      simp at h
      subst h
      omega
    | succ j =>
      have := ih (j := j) (by simpa using h)
      omega
/-- a slice is no longer than the bound -/
theorem slice_small {H : Type} {l : List (DataW H)} {j : Nat} {elems spare : List (DataW H)} (hk : Rows.uptoSmall H l = true) (hd : l[j]? = some (.slice elems spare)) : elems.length + spare.length ≤ 1048576 := by
  have h1 : Rows.uptoBulkAll l ≤ 1048576 := of_decide_eq_true hk
  have h2 := bulk_at hd
  have h3 := bulk_len elems
  have h4 := bulk_len spare
  simp only [Rows.uptoBulk] at h2
  omega
end Go.Proofs.Ytejablcdpakgoaa
