/- Plain laws of scripts as bytes: what is read is put as the same bytes; what is put is read; scripts one behind the other. -/
import Derived.Test.YtpbnodomopdjhaaCodeM
namespace Go.Proofs.Ytpbnodomopdjhaa.Cd
open En
set_option linter.unusedVariables false
set_option linter.unusedSimpArgs false

theorem allF_append (l m : List Stp) : allF (l ++ m) = allF l ++ allF m := by unfold allF; rw [List.flatMap_append]
theorem allF_cons (s : Stp) (l : List Stp) : allF (s :: l) = oneF s ++ allF l := rfl
theorem oneF_pos (s : Stp) : 0 < (oneF s).length := by
  unfold oneF
  split
  · split <;> simp
  · simp

/-- the head of a step's bytes, read -/
theorem stepF_one (s : Stp) (r : List Int) (h : mayF s = true) : stepF (oneF s ++ r) = (s, (oneF s).length, 0) := by
  obtain ⟨op, p⟩ := s
  unfold mayF at h
  by_cases h1 : op = 1
  · subst h1
    rw [if_pos rfl] at h
    have hp : p.length ≤ 3000 := of_decide_eq_true h
    unfold oneF
    rw [if_pos rfl]
    by_cases h2 : p.length ≤ 127
    · simp only [h2, if_true]
      unfold stepF
      have e0 : (((p.length : Int) :: p) ++ r).getD 0 0 = p.length := rfl
      rw [e0, if_pos (by omega), Int.toNat_natCast]
      unfold pushF
      rw [if_neg (by simp <;> omega)]
      simp [Nat.add_comm]
    · simp only [h2, if_false]
      unfold stepF
      have e0 : ((128 :: (p.length : Int) % 256 :: (p.length : Int) / 256 :: p) ++ r).getD 0 0 = 128 := rfl
      have e1 : longF ((128 :: (p.length : Int) % 256 :: (p.length : Int) / 256 :: p) ++ r) = p.length := by
        unfold longF
        show (p.length : Int) % 256 + 256 * ((p.length : Int) / 256) = _
        omega
      rw [e0, e1, if_neg (by decide), if_pos rfl, if_neg (by simp), if_neg (by omega), Int.toNat_natCast]
      unfold pushF
      rw [if_neg (by simp <;> omega)]
      simp [Nat.add_comm]
      omega
  · rw [if_neg h1] at h
    obtain ⟨h2, h3, h4⟩ := of_decide_eq_true h
    simp only at h2 h3 h4
    have hp : p = [] := List.eq_nil_of_length_eq_zero h4
    subst hp
    unfold oneF
    simp only [h1, if_false]
    unfold stepF
    have e0 : ([127 + op] ++ r).getD 0 0 = 127 + op := rfl
    rw [e0, if_neg (by omega), if_neg (by omega), if_pos (by omega)]
    simp
    omega

theorem readF_succ (k : Nat) (acc : List Stp) (x : Int) (b : List Int) : readF (k + 1) acc (x :: b) = if acc.length = 200 then ([], 3)
    else if (stepF (x :: b)).2.2 = 0 then readF k (acc ++ [(stepF (x :: b)).1]) ((x :: b).drop (stepF (x :: b)).2.1)
    else ([], (stepF (x :: b)).2.2) := rfl
theorem all_cons_may {s : Stp} {l : List Stp} (h : (s :: l).all mayF = true) : mayF s = true ∧ l.all mayF = true := by simpa using h

/-- what is put is read, and what stands behind is read on -/
theorem readF_all : ∀ (l : List Stp) (k : Nat) (acc : List Stp) (r : List Int), l.all mayF = true → acc.length + l.length ≤ 200 → (allF l ++ r).length ≤ k →
    ∃ j, r.length ≤ j ∧ readF k acc (allF l ++ r) = readF j (acc ++ l) r := by
  intro l
  induction l with
  | nil => intro k acc r _ _ hk; exact ⟨k, by simpa [allF] using hk, by simp [allF]⟩
  | cons s l ih =>
    intro k acc r hl hlen hk
    obtain ⟨hs, hl⟩ := all_cons_may hl
    have hst := stepF_one s (allF l ++ r) hs
    have hpos := oneF_pos s
    rw [allF_cons, List.append_assoc] at hk ⊢
    obtain ⟨x, b, hb⟩ : ∃ x b, oneF s ++ (allF l ++ r) = x :: b := by
      cases h : oneF s ++ (allF l ++ r) with
      | nil => rw [List.append_eq_nil_iff] at h; rw [h.1] at hpos; simp at hpos
      | cons x b => exact ⟨x, b, rfl⟩
    have hdrop : (x :: b).drop (oneF s).length = allF l ++ r := by rw [← hb]; exact List.drop_left
    rw [hb] at hst hk ⊢
    cases k with
    | zero => simp at hk
    | succ k =>
      simp only [List.length_cons] at hlen
      rw [readF_succ, if_neg (by omega), hst, if_pos rfl, hdrop]
      have hl2 : (allF l ++ r).length ≤ k := by
        have h1 : (x :: b).length = (oneF s).length + (allF l ++ r).length := by rw [← hb, List.length_append]
        omega
      obtain ⟨j, h1, h2⟩ := ih k (acc ++ [s]) r hl (by rw [List.length_append]; simp; omega) hl2
      exact ⟨j, h1, by rw [h2, List.append_assoc]; rfl⟩
/-- too many steps -/
theorem readF_many : ∀ (l : List Stp) (k : Nat) (acc : List Stp), l.all mayF = true → acc.length ≤ 200 → 200 < acc.length + l.length → (allF l).length ≤ k → readF k acc (allF l) = ([], 3) := by
  intro l
  induction l with
  | nil => intro k acc _ h1 h2; simp at h2; omega
  | cons s l ih =>
    intro k acc hl h1 h2 hk
    obtain ⟨hs, hl⟩ := all_cons_may hl
    have hst := stepF_one s (allF l) hs
    have hpos := oneF_pos s
    rw [allF_cons] at hk ⊢
    obtain ⟨x, b, hb⟩ : ∃ x b, oneF s ++ allF l = x :: b := by
      cases h : oneF s ++ allF l with
      | nil => rw [List.append_eq_nil_iff] at h; rw [h.1] at hpos; simp at hpos
      | cons x b => exact ⟨x, b, rfl⟩
    have hdrop : (x :: b).drop (oneF s).length = allF l := by rw [← hb]; exact List.drop_left
    rw [hb] at hst hk ⊢
    cases k with
    | zero => simp at hk
    | succ k =>
      rw [readF_succ]
      by_cases h200 : acc.length = 200
      · rw [if_pos h200]
      · rw [if_neg h200, hst, if_pos rfl, hdrop]
        have hl2 : (allF l).length ≤ k := by
          have h1 : (x :: b).length = (oneF s).length + (allF l).length := by rw [← hb, List.length_append]
          omega
        exact ih k (acc ++ [s]) hl (by rw [List.length_append]; simp; omega) (by rw [List.length_append]; simp at h2 ⊢; omega) hl2
theorem putF_ok {l : List Stp} {b : List Int} (h : putF l = (b, 0)) : l.all mayF = true ∧ l.length ≤ 200 ∧ b = allF l := by
  unfold putF at h
  split at h
  · rename_i h1
    split at h
    · rename_i h2
      exact ⟨h1, h2, (congrArg Prod.fst h).symm⟩
    · cases h
  · cases h
theorem putF_err {l : List Stp} (h : (putF l).2 ≠ 0) : (putF l).1 = [] := by
  unfold putF at *
  split at h
  · split at h
    · exact absurd rfl h
    · rename_i h1 h2; rw [if_pos h1, if_neg h2]
  · rename_i h1; rw [if_neg h1]
theorem put_read {l : List Stp} {b : List Int} (h : putF l = (b, 0)) : readAll b = (l, 0) := by
  obtain ⟨h1, h2, rfl⟩ := putF_ok h
  obtain ⟨j, _, hj⟩ := readF_all l (allF l).length [] [] h1 (by simpa using h2) (by simp)
  rw [List.append_nil] at hj
  unfold readAll
  rw [hj]
  cases j <;> simp [readF]

/-- the step that is read is put as its bytes -/
theorem pushF_back {b : List Int} {fr n : Nat} (h : (pushF b fr n).2.2 = 0) (hn : n ≤ 3000) : mayF (pushF b fr n).1 = true ∧ (pushF b fr n).1.2.length = n ∧ (pushF b fr n).1.1 = 1 := by
  obtain ⟨h1, h2⟩ := pushF_pos h
  rw [h2]
  have hl : ((b.drop fr).take n).length = n := by rw [List.length_take, List.length_drop]; omega
  refine ⟨?_, hl, rfl⟩
  unfold mayF
  rw [if_pos rfl]
  exact decide_eq_true (by show ((b.drop fr).take n).length ≤ 3000; omega)
theorem stepF_back {b : List Int} (hB : IsB b) (hne : b ≠ []) (h : (stepF b).2.2 = 0) : mayF (stepF b).1 = true ∧ oneF (stepF b).1 ++ b.drop (stepF b).2.1 = b := by
  obtain ⟨x, b, rfl⟩ : ∃ x c, b = x :: c := by cases b with | nil => exact absurd rfl hne | cons x c => exact ⟨x, c, rfl⟩
  have hx := hB.getD 0
  have e0 : (x :: b).getD 0 0 = x := rfl
  rw [e0] at hx
  unfold stepF at *
  rw [e0] at h ⊢
  split at h
  · rename_i h1
    rw [if_pos h1]
    obtain ⟨h2, h3⟩ := pushF_pos h
    obtain ⟨m1, m2, m3⟩ := pushF_back h (by omega)
    refine ⟨m1, ?_⟩
    rw [h3] at m2 ⊢
    unfold oneF
    simp only at m2 ⊢
    rw [if_pos trivial, m2, if_pos (by omega)]
    show ((x.toNat : Int) :: (b.take x.toNat)) ++ (x :: b).drop (1 + x.toNat) = x :: b
    rw [Nat.add_comm, List.drop_succ_cons, List.cons_append, List.take_append_drop]
    congr 1
    omega
  · rename_i h1
    split at h
    · rename_i h2
      rw [if_neg h1, if_pos h2]
      split at h
      · cases h
      · rename_i h3
        rw [if_neg h3]
        split at h
        · cases h
        · rename_i h4
          rw [if_neg h4]
          have hb1 := hB.getD 1
          have hb2 := hB.getD 2
          obtain ⟨h5, h6⟩ := pushF_pos h
          obtain ⟨m1, m2, m3⟩ := pushF_back h (by omega)
          refine ⟨m1, ?_⟩
          rw [h6] at m2 ⊢
          unfold oneF
          simp only at m2 ⊢
          have hq : 0 ≤ longF (x :: b) := by unfold longF; omega
          rw [if_pos trivial, m2, if_neg (by omega), Int.toNat_of_nonneg hq]
          match b, h3 with
          | [], h3 => simp at h3
          | [y], h3 => simp at h3
          | y :: z :: b, _ =>
            have e1 : (x :: y :: z :: b).getD 1 0 = y := rfl
            have e2 : (x :: y :: z :: b).getD 2 0 = z := rfl
            rw [e1] at hb1
            rw [e2] at hb2
            have e3 : longF (x :: y :: z :: b) = y + 256 * z := rfl
            rw [e3]
            have e4 : (y + 256 * z) % 256 = y := by omega
            have e5 : (y + 256 * z) / 256 = z := by omega
            rw [e4, e5, h2, Nat.add_comm 3]
            show 128 :: y :: z :: (b.take _ ++ b.drop _) = _
            rw [List.take_append_drop]
    · rename_i h2
      rw [if_neg h1, if_neg h2]
      split at h
      · rename_i h3
        rw [if_pos h3]
        refine ⟨?_, ?_⟩
        · unfold mayF
          rw [if_neg (by show ¬ x - 127 = 1; omega)]
          exact decide_eq_true ⟨by show 2 ≤ x - 127; omega, by show x - 127 ≤ 20; omega, rfl⟩
        · unfold oneF
          rw [if_neg (by show ¬ x - 127 = 1; omega)]
          show [127 + (x - 127)] ++ b = x :: b
          rw [show 127 + (x - 127) = x from by omega]
          rfl
      · cases h
theorem readF_back : ∀ (k : Nat) (acc : List Stp) (b : List Int) (l : List Stp), IsB b → readF k acc b = (l, 0) → acc.all mayF = true → acc.length ≤ 200 → allF l = allF acc ++ b ∧ l.all mayF = true ∧ l.length ≤ 200 := by
  intro k
  induction k with
  | zero =>
    intro acc b l hB h ha hl
    cases b with
    | nil =>
      have : acc = l := congrArg Prod.fst h
      subst this
      exact ⟨by simp, ha, hl⟩
    | cons x b => cases h
  | succ k ih =>
    intro acc b l hB h ha hl
    cases b with
    | nil =>
      have : acc = l := congrArg Prod.fst h
      subst this
      exact ⟨by simp, ha, hl⟩
    | cons x b =>
      rw [readF_succ] at h
      split at h
      · cases h
      · rename_i h200
        split at h
        · rename_i hs
          obtain ⟨h1, h2⟩ := stepF_back hB (by simp) hs
          obtain ⟨h3, h4⟩ := ih _ _ l (hB.drop _) h (by rw [List.all_append, ha]; simp [h1]) (by rw [List.length_append]; simp; omega)
          refine ⟨?_, h4⟩
          rw [h3, allF_append, List.append_assoc]
          show allF acc ++ (oneF (stepF (x :: b)).1 ++ [] ++ _) = _
          rw [List.append_nil, h2]
        · rename_i hs
          exact absurd (congrArg Prod.snd h) hs
theorem read_put {b : List Int} {l : List Stp} (hB : IsB b) (h : readAll b = (l, 0)) : putF l = (b, 0) := by
  obtain ⟨h1, h2, h3⟩ := readF_back _ _ _ _ hB h rfl (by simp)
  unfold putF
  rw [if_pos h2, if_pos h3, h1]
  rfl
theorem readF_err : ∀ (k : Nat) (acc : List Stp) (b : List Int), (readF k acc b).2 ≠ 0 → (readF k acc b).1 = [] := by
  intro k
  induction k with
  | zero =>
    intro acc b h
    cases b with
    | nil => exact absurd rfl h
    | cons x b => rfl
  | succ k ih =>
    intro acc b h
    cases b with
    | nil => exact absurd rfl h
    | cons x b =>
      rw [readF_succ] at h ⊢
      split
      · rfl
      · rename_i h1
        rw [if_neg h1] at h
        split
        · rename_i h2
          rw [if_pos h2] at h
          exact ih _ _ h
        · rfl
theorem readAll_err {b : List Int} (h : (readAll b).2 ≠ 0) : (readAll b).1 = [] := readF_err _ _ _ h
theorem read_join {a b : List Int} {x y : List Stp} (ha : IsB a) (hb : IsB b) (h : readAll a = (x, 0)) (k : readAll b = (y, 0)) :
    x.length ≤ 200 ∧ y.length ≤ 200 ∧ readAll (a ++ b) = if 200 < x.length + y.length then ([], 3) else (x ++ y, 0) := by
  obtain ⟨h1, h2, rfl⟩ := putF_ok (read_put ha h)
  obtain ⟨k1, k2, rfl⟩ := putF_ok (read_put hb k)
  refine ⟨h2, k2, ?_⟩
  obtain ⟨j, hj, hr⟩ := readF_all x (allF x ++ allF y).length [] (allF y) h1 (by simpa using h2) (Nat.le_refl _)
  unfold readAll
  rw [hr, List.nil_append]
  by_cases hlim : 200 < x.length + y.length
  · rw [if_pos hlim]
    exact readF_many y j x k1 h2 hlim hj
  · rw [if_neg hlim]
    obtain ⟨i, _, hi⟩ := readF_all y j x [] k1 (by omega) (by simpa using hj)
    rw [List.append_nil] at hi
    rw [hi]
    cases i <;> simp [readF]
#print axioms read_join
end Go.Proofs.Ytpbnodomopdjhaa.Cd
