/- Numbers in base -1 + i, in plain Lean: each number below 2^40 has a place of its own, which lies within 2^22, and comes back of it; a place that comes to an end in forty steps is its number's. -/
namespace Go.Proofs.Ytedbbbbjajafgaa.Pl

/-- the place of the lowest k digits of n -/
def V : Nat → Nat → Int × Int
  | _, 0 => (0, 0)
  | n, k + 1 => (((n % 2 : Nat) : Int) - (V (n / 2) k).1 - (V (n / 2) k).2, (V (n / 2) k).1 - (V (n / 2) k).2)

def pw : Nat → Int × Int
  | 0 => (1, 0)
  | k + 1 => (-(pw k).1 - (pw k).2, (pw k).1 - (pw k).2)

def zz (n : Nat) : Nat → Int × Int
  | 0 => (0, 0)
  | k + 1 => if n / 2 ^ k % 2 = 1 then ((zz n k).1 + (pw k).1, (zz n k).2 + (pw k).2) else zz n k

theorem V_succ (k : Nat) : ∀ n : Nat, V n (k + 1) = ((V n k).1 + ((n / 2 ^ k % 2 : Nat) : Int) * (pw k).1, (V n k).2 + ((n / 2 ^ k % 2 : Nat) : Int) * (pw k).2) := by
  induction k with
  | zero => intro n; simp [V, pw]
  | succ k ih =>
    intro n
    have h1 : V n (k + 1 + 1) = (((n % 2 : Nat) : Int) - (V (n / 2) (k + 1)).1 - (V (n / 2) (k + 1)).2, (V (n / 2) (k + 1)).1 - (V (n / 2) (k + 1)).2) := rfl
    have h2 : V n (k + 1) = (((n % 2 : Nat) : Int) - (V (n / 2) k).1 - (V (n / 2) k).2, (V (n / 2) k).1 - (V (n / 2) k).2) := rfl
    have h3 : n / 2 / 2 ^ k = n / 2 ^ (k + 1) := by rw [Nat.div_div_eq_div_mul, Nat.pow_succ, Nat.mul_comm]
    have h4 : pw (k + 1) = (-(pw k).1 - (pw k).2, (pw k).1 - (pw k).2) := rfl
    rw [h1, ih (n / 2), h2, h3, h4]
    generalize n / 2 ^ (k + 1) % 2 = d
    generalize (pw k).1 = x
    generalize (pw k).2 = y
    generalize (V (n / 2) k).1 = u
    generalize (V (n / 2) k).2 = v
    ext
    · show _ = _; simp only [Int.mul_sub, Int.mul_neg]; omega
    · show _ = _; simp only [Int.mul_sub]; omega

theorem zz_eq (n : Nat) : ∀ k, zz n k = V n k := by
  intro k
  induction k with
  | zero => rfl
  | succ k ih =>
    rw [V_succ, zz, ih]
    split
    · rename_i h; rw [h]; simp
    · rename_i h
      have : n / 2 ^ k % 2 = 0 := by omega
      rw [this]; simp

theorem zz_stop (n k : Nat) (h : n / 2 ^ k = 0) : ∀ j, k ≤ j → zz n j = zz n k := by
  intro j
  induction j with
  | zero => intro hj; obtain rfl : k = 0 := by omega
            rfl
  | succ j ih =>
    intro hj
    rcases Nat.eq_or_lt_of_le hj with h' | h'
    · rw [h']
    · have e : zz n (j + 1) = if n / 2 ^ j % 2 = 1 then ((zz n j).1 + (pw j).1, (zz n j).2 + (pw j).2) else zz n j := rfl
      have hz : n / 2 ^ j = 0 := by
        have h1 : n < 2 ^ k := by
          rcases Nat.lt_or_ge n (2 ^ k) with h2 | h2
          · exact h2
          · have := Nat.div_pos h2 (Nat.two_pow_pos k); omega
        exact Nat.div_eq_of_lt (Nat.lt_of_lt_of_le h1 (Nat.pow_le_pow_right (by omega) (by omega)))
      rw [e, if_neg (by rw [hz]; decide)]
      exact ih (by omega)

/-- the bound on the parts of the first k powers together -/
def S : Nat → Nat
  | 0 => 0
  | k + 1 => S k + max (pw k).1.natAbs (pw k).2.natAbs

theorem zz_le (n : Nat) : ∀ k, (zz n k).1.natAbs ≤ S k ∧ (zz n k).2.natAbs ≤ S k := by
  intro k
  induction k with
  | zero => simp [zz, S]
  | succ k ih =>
    obtain ⟨h1, h2⟩ := ih
    unfold zz S
    split
    · simp only []; omega
    · omega

theorem S_mono (k j : Nat) (h : k ≤ j) : S k ≤ S j := by
  induction j with
  | zero => rw [Nat.le_zero.1 h]; exact Nat.le_refl _
  | succ j ih =>
    rcases Nat.eq_or_lt_of_le h with h' | h'
    · rw [h']; exact Nat.le_refl _
    · have := ih (by omega)
      have e : S (j + 1) = S j + max (pw j).1.natAbs (pw j).2.natAbs := rfl
      omega

theorem S_forty : S 40 = 2097150 := by decide +kernel

theorem V_le (n k : Nat) (hk : k ≤ 40) : (V n k).1.natAbs ≤ 2097150 ∧ (V n k).2.natAbs ≤ 2097150 := by
  have h := zz_le n k
  rw [zz_eq] at h
  have h2 := S_mono k 40 hk
  rw [S_forty] at h2
  omega

theorem pw_le : ∀ k : Fin 41, (pw k.val).1.natAbs ≤ 1048576 ∧ (pw k.val).2.natAbs ≤ 1048576 := by decide +kernel

/-! ### back -/
def dig (z : Int × Int) : Int := (z.1 + z.2) % 2
def nx (z : Int × Int) : Int × Int := ((z.2 - (z.1 - dig z)) / 2, (-(z.1 - dig z) - z.2) / 2)
def st : Nat → Int × Int → Int × Int
  | 0, z => z
  | k + 1, z => nx (st k z)
def num : Nat → Int × Int → Nat
  | 0, _ => 0
  | k + 1, z => num k z + (dig (st k z)).toNat * 2 ^ k

theorem dig_01 (z : Int × Int) : dig z = 0 ∨ dig z = 1 := by unfold dig; omega

theorem st_front (k : Nat) : ∀ z, st (k + 1) z = st k (nx z) := by
  induction k with
  | zero => intro z; rfl
  | succ k ih => intro z; show nx (st (k + 1) z) = nx (st k (nx z)); rw [ih]

theorem num_front (k : Nat) : ∀ z, num (k + 1) z = (dig z).toNat + 2 * num k (nx z) := by
  induction k with
  | zero => intro z; simp [num, st]
  | succ k ih =>
    intro z
    have h1 : num (k + 1 + 1) z = num (k + 1) z + (dig (st (k + 1) z)).toNat * 2 ^ (k + 1) := rfl
    have h2 : num (k + 1) (nx z) = num k (nx z) + (dig (st k (nx z))).toNat * 2 ^ k := rfl
    rw [h1, ih, h2, st_front, Nat.pow_succ, ← Nat.mul_assoc]
    omega

theorem num_lt (k : Nat) (z : Int × Int) : num k z < 2 ^ k := by
  induction k with
  | zero => simp [num]
  | succ k ih =>
    have h := dig_01 (st k z)
    unfold num
    rw [Nat.pow_succ]
    rcases h with h | h <;> rw [h] <;> simp <;> omega

theorem nx_V (n k : Nat) : dig (V n (k + 1)) = ((n % 2 : Nat) : Int) ∧ nx (V n (k + 1)) = V (n / 2) k := by
  have hd : dig (V n (k + 1)) = ((n % 2 : Nat) : Int) := by
    unfold dig V
    simp only []
    omega
  refine ⟨hd, ?_⟩
  unfold nx
  rw [hd]
  have e : V n (k + 1) = (((n % 2 : Nat) : Int) - (V (n / 2) k).1 - (V (n / 2) k).2, (V (n / 2) k).1 - (V (n / 2) k).2) := rfl
  rw [e]
  generalize V (n / 2) k = v
  obtain ⟨a, b⟩ := v
  ext
  · show _ / 2 = _; simp only []; omega
  · show _ / 2 = _; simp only []; omega

theorem st_V (k : Nat) : ∀ n, st k (V n k) = (0, 0) := by
  induction k with
  | zero => intro n; rfl
  | succ k ih => intro n; rw [st_front, (nx_V n k).2]; exact ih _

theorem num_V (k : Nat) : ∀ n, n < 2 ^ k → num k (V n k) = n := by
  induction k with
  | zero => intro n hn; simp at hn; simp [num, hn]
  | succ k ih =>
    intro n hn
    rw [Nat.pow_succ] at hn
    rw [num_front, (nx_V n k).2, (nx_V n k).1, ih _ (by omega)]
    omega

theorem V_num (k : Nat) : ∀ z, st k z = (0, 0) → V (num k z) k = z := by
  induction k with
  | zero => intro z h; exact h.symm
  | succ k ih =>
    intro z h
    rw [st_front] at h
    have h2 := ih _ h
    rw [num_front]
    have hd := dig_01 z
    have e1 : ((dig z).toNat + 2 * num k (nx z)) % 2 = (dig z).toNat := by omega
    have e2 : ((dig z).toNat + 2 * num k (nx z)) / 2 = num k (nx z) := by omega
    unfold V
    rw [e1, e2, h2]
    have hdd : dig z = (z.1 + z.2) % 2 := rfl
    unfold nx
    generalize dig z = d at *
    obtain ⟨a, b⟩ := z
    simp only [] at *
    ext
    · show _ = a; simp only []; omega
    · show _ = b; simp only []; omega

theorem st_zero (k j : Nat) (z : Int × Int) (h : st k z = (0, 0)) (hj : k ≤ j) : st j z = (0, 0) ∧ num j z = num k z := by
  induction j with
  | zero =>
    obtain rfl : k = 0 := by omega
    exact ⟨h, rfl⟩
  | succ j ih =>
    rcases Nat.eq_or_lt_of_le hj with h' | h'
    · subst h'; exact ⟨h, rfl⟩
    · obtain ⟨h1, h2⟩ := ih (by omega)
      have e1 : st (j + 1) z = nx (st j z) := rfl
      have e2 : num (j + 1) z = num j z + (dig (st j z)).toNat * 2 ^ j := rfl
      constructor
      · rw [e1, h1]; rfl
      · rw [e2, h1, h2]; simp [dig]

/-- within 2^22 -/
def inr (z : Int × Int) : Prop := -4194304 < z.1 ∧ z.1 < 4194304 ∧ -4194304 < z.2 ∧ z.2 < 4194304
instance (z : Int × Int) : Decidable (inr z) := by unfold inr; exact inferInstance

theorem nx_inr {z : Int × Int} (h : inr z) : inr (nx z) := by
  have hd := dig_01 z
  unfold inr nx at *
  obtain ⟨a, b⟩ := z
  simp only [] at *
  generalize dig (a, b) = d at *
  omega

theorem st_inr (k : Nat) {z : Int × Int} (h : inr z) : inr (st k z) := by
  induction k with
  | zero => exact h
  | succ k ih => exact nx_inr ih

theorem V_inr (n k : Nat) (hk : k ≤ 40) : inr (V n k) := by
  have := V_le n k hk
  unfold inr; omega

/-- Of: the place, or the error's number. -/
def ofF (n : Nat) : (Int × Int) × Int := if n < 1099511627776 then (V n 40, 0) else ((0, 0), 3)
/-- Back: the number, or the error's number. -/
def backF (z : Int × Int) : Nat × Int := if inr z then (if st 40 z = (0, 0) then (num 40 z, 0) else (0, 6)) else (0, 5)
def turnF (z : Int × Int) (q : Int) : Int × Int :=
  if q % 4 = 1 then (-z.2, z.1) else if q % 4 = 2 then (-z.1, -z.2) else if q % 4 = 3 then (z.2, -z.1) else z

theorem back_of (n : Nat) (h : n < 1099511627776) : backF (V n 40) = (n, 0) := by
  unfold backF
  rw [if_pos (V_inr n 40 (by omega)), if_pos (st_V 40 n), num_V 40 n (by omega)]
theorem of_back (z : Int × Int) (n : Nat) (h : backF z = (n, 0)) : n < 1099511627776 ∧ V n 40 = z := by
  unfold backF at h
  split at h
  · split at h
    · rename_i h1
      injection h with h2 _
      subst h2
      exact ⟨num_lt 40 z, V_num 40 z h1⟩
    · cases h
  · cases h
theorem back_err (z : Int × Int) : (backF z).2 = 0 ∨ ((backF z).2 ≠ 0 ∧ (backF z).1 = 0) := by
  unfold backF
  split
  · split
    · exact .inl rfl
    · exact .inr ⟨by decide, rfl⟩
  · exact .inr ⟨by decide, rfl⟩
theorem V_inj (n m : Nat) (hn : n < 1099511627776) (hm : m < 1099511627776) (h : V n 40 = V m 40) : n = m := by
  have h1 := back_of n hn
  rw [h, back_of m hm] at h1
  injection h1 with h2 _
  exact h2.symm

#print axioms V_inj
end Go.Proofs.Ytedbbbbjajafgaa.Pl
