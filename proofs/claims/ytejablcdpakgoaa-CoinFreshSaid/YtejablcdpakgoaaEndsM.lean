/- Numbers and rows as bytes, in plain Lean: what layer 1 computes, and the laws of it. -/
namespace Go.Proofs.Ytejablcdpakgoaa.En
set_option linter.unusedVariables false
set_option linter.unusedSimpArgs false

/-- all are bytes -/
def IsB (xs : List Int) : Prop := ∀ x ∈ xs, 0 ≤ x ∧ x ≤ 255
theorem IsB.nil : IsB [] := by intro x h; cases h
theorem IsB.append {xs ys : List Int} (h : IsB xs) (k : IsB ys) : IsB (xs ++ ys) := by
  intro x hx
  rcases List.mem_append.1 hx with h1 | h1
  · exact h x h1
  · exact k x h1
theorem IsB.cons {x : Int} {xs : List Int} (h : 0 ≤ x ∧ x ≤ 255) (k : IsB xs) : IsB (x :: xs) := by
  intro y hy
  rcases List.mem_cons.1 hy with rfl | h1
  · exact h
  · exact k y h1
theorem IsB.take {xs : List Int} (h : IsB xs) (n : Nat) : IsB (xs.take n) := fun x hx => h x (List.mem_of_mem_take hx)
theorem IsB.drop {xs : List Int} (h : IsB xs) (n : Nat) : IsB (xs.drop n) := fun x hx => h x (List.mem_of_mem_drop hx)
theorem IsB.getD {xs : List Int} (h : IsB xs) (i : Nat) : 0 ≤ xs.getD i 0 ∧ xs.getD i 0 ≤ 255 := by
  rw [List.getD_eq_getElem?_getD]
  cases hi : xs[i]? with
  | none => simp
  | some x => exact h x (List.mem_of_getElem? hi)

/-- so many bytes of a number, the lowest first -/
def lowF (n : Int) : Nat → List Int
  | 0 => []
  | k + 1 => n % 256 :: lowF (n / 256) k
theorem lowF_length (k : Nat) : ∀ n, (lowF n k).length = k := by
  induction k with
  | zero => intro n; rfl
  | succ k ih => intro n; simp [lowF, ih]
theorem lowF_isB (k : Nat) : ∀ n, IsB (lowF n k) := by
  induction k with
  | zero => intro n; exact IsB.nil
  | succ k ih => intro n; exact IsB.cons (by omega) (ih _)
theorem lowF_snoc (k : Nat) : ∀ n, lowF n (k + 1) = lowF n k ++ [n / 256 ^ k % 256] := by
  induction k with
  | zero => intro n; simp [lowF]
  | succ k ih =>
    intro n
    have h : n / 256 / 256 ^ k = n / 256 ^ (k + 1) := by
      rw [Int.ediv_ediv_of_nonneg (by omega), Int.pow_succ, Int.mul_comm]
    show n % 256 :: lowF (n / 256) (k + 1) = n % 256 :: lowF (n / 256) k ++ [n / 256 ^ (k + 1) % 256]
    rw [ih, h]; rfl
/-- the number of bytes -/
def valF : List Int → Int
  | [] => 0
  | x :: p => x + 256 * valF p
theorem valF_snoc (p : List Int) (x : Int) : valF (p ++ [x]) = valF p + x * 256 ^ p.length := by
  induction p with
  | nil => simp [valF]
  | cons y p ih =>
    show y + 256 * valF (p ++ [x]) = y + 256 * valF p + x * 256 ^ (p.length + 1)
    rw [ih, Int.pow_succ, Int.mul_add, ← Int.add_assoc]
    congr 1
    rw [← Int.mul_assoc, Int.mul_comm 256 x, Int.mul_assoc, Int.mul_comm 256]
theorem valF_bound (p : List Int) (h : IsB p) : 0 ≤ valF p ∧ valF p < 256 ^ p.length := by
  induction p with
  | nil => simp [valF]
  | cons y p ih =>
    have h1 := ih fun x hx => h x (List.mem_cons_of_mem _ hx)
    have h2 := h y (List.mem_cons_self ..)
    have e : (256 : Int) ^ (y :: p).length = 256 ^ p.length * 256 := by rw [List.length_cons, Int.pow_succ]
    rw [e]
    unfold valF
    generalize (256 : Int) ^ p.length = q at *
    omega
theorem valF_lowF (k : Nat) : ∀ n, valF (lowF n k) = n % 256 ^ k := by
  induction k with
  | zero => intro n; simp [valF, lowF]
  | succ k ih =>
    intro n
    show n % 256 + 256 * valF (lowF (n / 256) k) = _
    rw [ih, Int.pow_succ, Int.mul_comm (256 ^ k) 256]
    have hp : (0 : Int) < 256 ^ k := Int.pow_pos (by omega)
    have h1 := Int.emod_add_mul_ediv n 256
    have h2 := Int.emod_add_mul_ediv (n / 256) (256 ^ k)
    have h3 := Int.emod_nonneg (n / 256) (Int.ne_of_gt hp)
    have h4 := Int.emod_lt_of_pos (n / 256) hp
    have h5 : n = n % 256 + 256 * (n / 256 % 256 ^ k) + 256 * 256 ^ k * (n / 256 / 256 ^ k) := by
      rw [Int.mul_assoc, Int.add_assoc, ← Int.mul_add, h2, h1]
    have h6 : 0 ≤ n % 256 + 256 * (n / 256 % 256 ^ k) := by omega
    have h7 : n % 256 + 256 * (n / 256 % 256 ^ k) < 256 * 256 ^ k := by
      generalize (256 : Int) ^ k = q at *
      omega
    conv => rhs; rw [h5, Int.add_mul_emod_self_left]
    exact (Int.emod_eq_of_lt h6 h7).symm
theorem lowF_valF (p : List Int) (h : IsB p) : lowF (valF p) p.length = p := by
  induction p with
  | nil => rfl
  | cons y p ih =>
    have h1 := ih fun x hx => h x (List.mem_cons_of_mem _ hx)
    have h2 := h y (List.mem_cons_self ..)
    show (y + 256 * valF p) % 256 :: lowF ((y + 256 * valF p) / 256) p.length = y :: p
    have e1 : (y + 256 * valF p) % 256 = y := by omega
    have e2 : (y + 256 * valF p) / 256 = valF p := by omega
    rw [e1, e2, h1]

/-- may so many bytes be? -/
def szB (m : Int) : Bool := decide (m = 1 ∨ m = 2 ∨ m = 4 ∨ m = 8)
def putF (n m : Int) : List Int × Int := if szB m = true ∧ (8 ≤ m ∨ n < 256 ^ m.toNat) then (lowF n m.toNat, 0) else ([], 2)
def partF (b : List Int) (at_ n : Int) : List Int × Int :=
  if at_ < 0 ∨ (b.length : Int) < at_ ∨ n < 0 then ([], 2) else if (b.length : Int) - at_ < n then ([], 4) else ((b.drop at_.toNat).take n.toNat, 0)
def getF (b : List Int) (at_ m : Int) : Int × Int :=
  if szB m = true then (if (partF b at_ m).2 = 0 then (valF (partF b at_ m).1, 0) else (0, (partF b at_ m).2)) else (0, 2)
def countF (n : Int) : List Int :=
  if n < 253 then [n] else if n < 65536 then 253 :: lowF n 2 else if n < 4294967296 then 254 :: lowF n 4 else 255 :: lowF n 8
/-- how many bytes stand behind a count's first one -/
def manyF (v : Int) : Int := if v = 253 then 2 else if v = 254 then 4 else 8
def getCountF (b : List Int) (at_ : Int) : Int × Int × Int :=
  if (getF b at_ 1).2 = 0 then
    (if (getF b at_ 1).1 < 253 then ((getF b at_ 1).1, at_ + 1, 0)
     else if (getF b (at_ + 1) (manyF (getF b at_ 1).1)).2 = 0 then
       (if ((countF (getF b (at_ + 1) (manyF (getF b at_ 1).1)).1).length : Int) ≤ manyF (getF b at_ 1).1 then (0, 0, 5)
        else ((getF b (at_ + 1) (manyF (getF b at_ 1).1)).1, at_ + 1 + manyF (getF b at_ 1).1, 0))
     else (0, 0, (getF b (at_ + 1) (manyF (getF b at_ 1).1)).2))
  else (0, 0, (getF b at_ 1).2)
def rowF (b : List Int) : List Int := countF b.length ++ b
def getRowF (b : List Int) (at_ most : Int) : List Int × Int × Int :=
  if (getCountF b at_).2.2 = 0 then
    (if most < 0 ∨ most < (getCountF b at_).1 then ([], 0, 3)
     else if (partF b (getCountF b at_).2.1 (getCountF b at_).1).2 = 0 then ((partF b (getCountF b at_).2.1 (getCountF b at_).1).1, (getCountF b at_).2.1 + (getCountF b at_).1, 0)
     else ([], 0, (partF b (getCountF b at_).2.1 (getCountF b at_).1).2))
  else ([], 0, (getCountF b at_).2.2)

theorem partF_isB {b : List Int} (h : IsB b) (at_ n : Int) : IsB (partF b at_ n).1 := by
  unfold partF
  split
  · exact IsB.nil
  · split
    · exact IsB.nil
    · exact (h.drop _).take _
theorem partF_ok {b : List Int} {at_ n : Int} (h : (partF b at_ n).2 = 0) : 0 ≤ at_ ∧ 0 ≤ n ∧ at_ + n ≤ b.length ∧ partF b at_ n = ((b.drop at_.toNat).take n.toNat, 0) := by
  unfold partF at *
  split at h
  · cases h
  · split at h
    · cases h
    · refine ⟨by omega, by omega, by omega, ?_⟩
      rw [if_neg (by omega), if_neg (by omega)]
theorem partF_length {b : List Int} {at_ n : Int} (h : (partF b at_ n).2 = 0) : ((partF b at_ n).1.length : Int) = n := by
  obtain ⟨h1, h2, h3, h4⟩ := partF_ok h
  rw [h4]
  simp only [List.length_take, List.length_drop]
  omega
theorem partF_err {b : List Int} {at_ n : Int} (h : (partF b at_ n).2 ≠ 0) : (partF b at_ n).1 = [] := by
  unfold partF at *
  split
  · rfl
  · split
    · rfl
    · rename_i h1 h2
      rw [if_neg h1, if_neg h2] at h
      exact absurd rfl h
theorem partF_codes (b : List Int) (at_ n : Int) : (partF b at_ n).2 = 0 ∨ (partF b at_ n).2 = 2 ∨ (partF b at_ n).2 = 4 := by
  unfold partF
  split
  · simp
  · split <;> simp
theorem getF_bound {b : List Int} (hb : IsB b) (at_ m : Int) : 0 ≤ (getF b at_ m).1 ∧ (getF b at_ m).1 < 256 ^ m.toNat ∧ (getF b at_ m).1 < 18446744073709551616 := by
  unfold getF
  have hp : (0 : Int) < 256 ^ m.toNat := Int.pow_pos (by omega)
  split
  · rename_i hs
    split
    · rename_i h
      have h1 := valF_bound _ (partF_isB hb at_ m)
      have h2 := partF_length h
      have h3 : (partF b at_ m).1.length = m.toNat := by omega
      rw [h3] at h1
      refine ⟨h1.1, h1.2, ?_⟩
      have hm : m = 1 ∨ m = 2 ∨ m = 4 ∨ m = 8 := by simpa [szB] using hs
      rcases hm with rfl | rfl | rfl | rfl
      · exact Int.lt_of_lt_of_le h1.2 (by decide)
      · exact Int.lt_of_lt_of_le h1.2 (by decide)
      · exact Int.lt_of_lt_of_le h1.2 (by decide)
      · exact Int.lt_of_lt_of_le h1.2 (by decide)
    · simp; exact hp
  · simp; exact hp
theorem countF_len (n : Int) : (countF n).length = 1 ∨ (countF n).length = 3 ∨ (countF n).length = 5 ∨ (countF n).length = 9 := by
  unfold countF
  split
  · simp
  · split
    · simp [lowF_length]
    · split <;> simp [lowF_length]
theorem countF_isB {n : Int} (h : 0 ≤ n) : IsB (countF n) := by
  unfold countF
  split
  · exact IsB.cons (by omega) IsB.nil
  · split
    · exact IsB.cons (by omega) (lowF_isB _ _)
    · split
      · exact IsB.cons (by omega) (lowF_isB _ _)
      · exact IsB.cons (by omega) (lowF_isB _ _)
theorem manyF_or (v : Int) : manyF v = 2 ∨ manyF v = 4 ∨ manyF v = 8 := by unfold manyF; split; simp; split <;> simp
#print axioms valF_lowF
end Go.Proofs.Ytejablcdpakgoaa.En
