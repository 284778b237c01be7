/- Plain laws of coins: the order of points; what is put is got; what is got is put. -/
import Derived.Test.YtejablcdpakgoaaCoinM
namespace Go.Proofs.Ytejablcdpakgoaa.Co
open En
set_option linter.unusedVariables false
set_option linter.unusedSimpArgs false

theorem lexB_self : ∀ xs : List Int, lexB xs xs = false
  | [] => rfl
  | x :: xs => by unfold lexB; rw [if_pos rfl]; exact lexB_self xs
theorem lexB_total : ∀ (xs ys : List Int), xs.length = ys.length → xs ≠ ys → lexB xs ys = !lexB ys xs
  | [], [], _, h => absurd rfl h
  | [], _ :: _, h, _ => by simp at h
  | _ :: _, [], h, _ => by simp at h
  | x :: xs, y :: ys, h, hne => by
    unfold lexB
    by_cases e : x = y
    · subst e
      rw [if_pos rfl, if_pos rfl]
      exact lexB_total xs ys (by simpa using h) (fun h2 => hne (by rw [h2]))
    · rw [if_neg e, if_neg (fun h2 => e h2.symm)]
      by_cases h1 : x < y
      · rw [decide_eq_true h1, decide_eq_false (show ¬ y < x by omega)]; rfl
      · rw [decide_eq_false h1, decide_eq_true (show y < x by omega)]; rfl
theorem lexB_trans : ∀ (xs ys zs : List Int), lexB xs ys = true → lexB ys zs = true → lexB xs zs = true
  | [], [], _, h, _ => by cases h
  | [], _ :: _, [], _, h => by cases h
  | [], _ :: _, _ :: _, _, _ => rfl
  | _ :: _, [], _, h, _ => by cases h
  | _ :: _, _ :: _, [], _, h => by cases h
  | x :: xs, y :: ys, z :: zs, h1, h2 => by
    unfold lexB at h1 h2 ⊢
    by_cases e : x = y
    · subst e
      rw [if_pos rfl] at h1
      by_cases f : x = z
      · subst f
        rw [if_pos rfl] at h2 ⊢
        exact lexB_trans xs ys zs h1 h2
      · rw [if_neg f] at h2 ⊢
        exact h2
    · rw [if_neg e] at h1
      have g1 := of_decide_eq_true h1
      by_cases f : y = z
      · subst f
        rw [if_neg e]
        exact h1
      · rw [if_neg f] at h2
        have g2 := of_decide_eq_true h2
        rw [if_neg (by omega)]
        exact decide_eq_true (by omega)
theorem key_inj {a b : Pt} (ha : a.ok) (hb : b.ok) (h : a.key = b.key) : a = b := by
  unfold Pt.key at h
  have h1 := List.append_inj h (by rw [ha.len, hb.len])
  have h2 := h1.2
  simp only [List.cons.injEq, and_true] at h2
  exact Pt.ext h1.1 h2.1 h2.2
theorem key_len {a : Pt} (ha : a.ok) : a.key.length = 34 := by unfold Pt.key; simp [ha.len]
theorem lessF_self (a : Pt) : lessF a a = false := lexB_self _
theorem lessF_total {a b : Pt} (ha : a.ok) (hb : b.ok) (h : a ≠ b) : lessF a b = !lessF b a :=
  lexB_total _ _ (by rw [key_len ha, key_len hb]) (fun h2 => h (key_inj ha hb h2))
theorem lessF_trans {a b c : Pt} (h1 : lessF a b = true) (h2 : lessF b c = true) : lessF a c = true := lexB_trans _ _ _ h1 h2
theorem lessF_asymm {a b : Pt} (h : lessF a b = true) : lessF b a = false := by
  cases h2 : lessF b a with
  | false => rfl
  | true => have := lessF_trans h h2; rw [lessF_self] at this; cases this

end Go.Proofs.Ytejablcdpakgoaa.Co
