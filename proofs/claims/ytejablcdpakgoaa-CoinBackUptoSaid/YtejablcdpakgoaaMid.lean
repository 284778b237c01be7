/- Plain laws of layer 1: what is put is got, what is got is put. -/
import Derived.Test.YtejablcdpakgoaaIs
namespace Go.Proofs.Ytejablcdpakgoaa
open Go.RowKit Go.Proofs En
set_option linter.unusedVariables false
set_option linter.unusedSimpArgs false

theorem partF_mid (x y z : List Int) (i m : Int) (hi : i = x.length) (hm : m = y.length) : partF (x ++ y ++ z) i m = (y, 0) := by
  subst hi hm
  unfold partF
  simp only [List.length_append]
  rw [if_neg (by omega), if_neg (by omega), Int.toNat_natCast, Int.toNat_natCast, List.append_assoc, List.drop_left, List.take_left]
theorem getF_mid (x z : List Int) (n i m : Int) (hi : i = x.length) (hm : szB m = true) (hn : 0 ≤ n ∧ n < 256 ^ m.toNat) : getF (x ++ lowF n m.toNat ++ z) i m = (n, 0) := by
  have hm2 := szB_or hm
  have hp := partF_mid x (lowF n m.toNat) z i m hi (by rw [lowF_length]; omega)
  unfold getF
  rw [if_pos hm, hp, if_pos rfl, valF_lowF, Int.emod_eq_of_lt hn.1 hn.2]
theorem getF_mid1 (x z : List Int) (v i : Int) (hi : i = x.length) : getF (x ++ v :: z) i 1 = (v, 0) := by
  have hp := partF_mid x [v] z i 1 hi rfl
  rw [List.append_assoc, List.singleton_append] at hp
  unfold getF
  rw [if_pos (by decide), hp, if_pos rfl]
  simp [valF]
theorem getCountF_mid (x z : List Int) (n i : Int) (hi : i = x.length) (hn : 0 ≤ n ∧ n < 18446744073709551616) : getCountF (x ++ countF n ++ z) i = (n, i + (countF n).length, 0) := by
  have key : ∀ (v m : Int) (k : Nat), m = k → manyF v = m → ¬ v < 253 → countF n = v :: lowF n k → szB m = true → n < 256 ^ k → getCountF (x ++ countF n ++ z) i = (n, i + (countF n).length, 0) := by
    intro v m k hmk hmv hv hc hs hlt
    have hg1 : getF (x ++ countF n ++ z) i 1 = (v, 0) := by
      rw [hc, List.append_assoc, List.cons_append]
      exact getF_mid1 x _ v i hi
    have hk : m.toNat = k := by omega
    have hg2 : getF (x ++ countF n ++ z) (i + 1) m = (n, 0) := by
      have h := getF_mid (x ++ [v]) z n (i + 1) m (by simp [hi]) hs (by rw [hk]; exact ⟨hn.1, hlt⟩)
      rw [hk] at h
      rw [hc]
      simpa using h
    have hlen : (countF n).length = k + 1 := by rw [hc]; simp [lowF_length]
    unfold getCountF
    rw [hg1]
    simp only [hv, if_true, if_false, hmv, hg2]
    rw [if_neg (by rw [hlen]; omega), hlen]
    congr 2
    omega
  by_cases h1 : n < 253
  · have hc : countF n = [n] := by unfold countF; rw [if_pos h1]
    have hg1 : getF (x ++ countF n ++ z) i 1 = (n, 0) := by
      rw [hc, List.append_assoc]
      exact getF_mid1 x _ n i hi
    unfold getCountF
    rw [hg1]
    simp only [h1, if_true, hc]
    rfl
  · by_cases h2 : n < 65536
    · exact key 253 2 2 rfl (by decide) (by omega) (by unfold countF; rw [if_neg h1, if_pos h2]) (by decide) (by simpa using h2)
    · by_cases h3 : n < 4294967296
      · exact key 254 4 4 rfl (by decide) (by omega) (by unfold countF; rw [if_neg h1, if_neg h2, if_pos h3]) (by decide) (by simpa using h3)
      · exact key 255 8 8 rfl (by decide) (by omega) (by unfold countF; rw [if_neg h1, if_neg h2, if_neg h3]) (by decide) (by simpa using hn.2)
theorem getRowF_mid (x r z : List Int) (i most : Int) (hi : i = x.length) (hm : (r.length : Int) ≤ most) (hr : (r.length : Int) < 18446744073709551616) : getRowF (x ++ rowF r ++ z) i most = (r, i + (rowF r).length, 0) := by
  have hb : x ++ rowF r ++ z = x ++ countF r.length ++ (r ++ z) := by unfold rowF; simp
  have hc := getCountF_mid x (r ++ z) r.length i hi ⟨by omega, hr⟩
  have hp := partF_mid (x ++ countF r.length) r z (i + (countF r.length).length) r.length (by rw [hi, List.length_append]; omega) rfl
  rw [hb]
  unfold getRowF
  rw [hc]
  simp only [if_true]
  rw [if_neg (by omega)]
  rw [show x ++ countF (r.length : Int) ++ (r ++ z) = x ++ countF (r.length : Int) ++ r ++ z from by simp, hp]
  simp only [if_true]
  unfold rowF
  rw [List.length_append]
  congr 2
  omega
theorem putF_ok {n m : Int} (h : (putF n m).2 = 0) : szB m = true ∧ (8 ≤ m ∨ n < 256 ^ m.toNat) ∧ putF n m = (lowF n m.toNat, 0) := by
  unfold putF at *
  split at h
  · rename_i h1
    exact ⟨h1.1, h1.2, if_pos h1⟩
  · cases h
theorem take_one_of {b : List Int} {v : Int} (h : partF b 0 1 = ([v], 0)) : b.take 1 = [v] := by
  obtain ⟨_, _, _, h4⟩ := partF_ok (b := b) (at_ := 0) (n := 1) (by rw [h])
  rw [h] at h4
  have := congrArg Prod.fst h4
  simpa using this.symm

/-- the count that was got stands there -/
theorem getCountF_same {b : List Int} (hB : IsB b) (h : (getCountF b 0).2.2 = 0) : countF (getCountF b 0).1 = b.take (getCountF b 0).2.1.toNat := by
  have hg0 : (getF b 0 1).2 = 0 := by
    unfold getCountF at h
    split at h
    · assumption
    · rename_i h1; exact absurd h h1
  obtain ⟨v, hv⟩ : ∃ v, getF b 0 1 = (v, 0) := ⟨_, Prod.ext rfl hg0⟩
  have h1 := take_one_of (getF_one hv)
  have hvb := getF_bound hB 0 1
  rw [hv] at hvb
  by_cases hlt : v < 253
  · have e : getCountF b 0 = (v, 0 + 1, 0) := by unfold getCountF; rw [hv]; simp only [hlt, if_true]
    rw [e]
    show countF v = b.take 1
    rw [h1]
    unfold countF
    rw [if_pos hlt]
  · have hm := manyF_or v
    have e : getCountF b 0 = if (getF b (0 + 1) (manyF v)).2 = 0 then (if ((countF (getF b (0 + 1) (manyF v)).1).length : Int) ≤ manyF v then (0, 0, 5) else ((getF b (0 + 1) (manyF v)).1, 0 + 1 + manyF v, 0)) else (0, 0, (getF b (0 + 1) (manyF v)).2) := by
      unfold getCountF; rw [hv]; simp only [hlt, if_true, if_false]
    rw [e] at h ⊢
    split at h
    · rename_i h2
      split at h
      · cases h
      · rename_i h3
        rw [if_pos h2, if_neg h3]
        obtain ⟨hs, hp, hx⟩ := getF_ok h2
        obtain ⟨_, _, hin, hpart⟩ := partF_ok hp
        have hpl := partF_length hp
        have hpB := partF_isB hB (0 + 1) (manyF v)
        have hxb := getF_bound hB (0 + 1) (manyF v)
        have hx1 : (getF b (0 + 1) (manyF v)).1 = valF (partF b (0 + 1) (manyF v)).1 := by rw [hx]
        have hp1 : (partF b (0 + 1) (manyF v)).1 = (b.drop 1).take (manyF v).toNat := by rw [hpart]; rfl
        have hv2 : v = 253 ∨ v = 254 ∨ v = 255 := by
          have : v < 256 := hvb.2.1
          omega
        have hcons : ∀ k : Nat, b.take (k + 1) = v :: (b.drop 1).take k := by
          intro k
          cases b with
          | nil => simp at h1
          | cons y ys =>
            have : y = v := by simpa using h1
            rw [this]; rfl
        show countF (getF b (0 + 1) (manyF v)).1 = b.take (0 + 1 + manyF v).toNat
        generalize hxx : (getF b (0 + 1) (manyF v)).1 = x at *
        generalize hpp : (partF b (0 + 1) (manyF v)).1 = p at *
        have hlow := lowF_valF p hpB
        have ht : (0 + 1 + manyF v).toNat = (manyF v).toNat + 1 := by omega
        rw [ht, hcons, ← hp1]
        rw [← hx1] at hlow
        unfold countF at h3 ⊢
        rcases hv2 with rfl | rfl | rfl
        · have em : manyF 253 = 2 := by decide
          rw [em] at h3 hpl hxb
          have hpl' : p.length = 2 := by omega
          have hlt2 : x < 65536 := by have := hxb.2.1; simpa using this
          split at h3
          · simp at h3
          · rename_i h4
            have := lowF_valF p hpB
            rw [← hx1, hpl'] at this
            rw [if_neg h4, if_pos hlt2, this]
        · have em : manyF 254 = 4 := by decide
          rw [em] at h3 hpl hxb
          have hpl' : p.length = 4 := by omega
          have hlt2 : x < 4294967296 := by have := hxb.2.1; simpa using this
          split at h3
          · simp at h3
          · rename_i h4
            split at h3
            · simp [lowF_length] at h3
            · rename_i h5
              have := lowF_valF p hpB
              rw [← hx1, hpl'] at this
              rw [if_neg h4, if_neg h5, if_pos hlt2, this]
        · have em : manyF 255 = 8 := by decide
          rw [em] at h3 hpl hxb
          have hpl' : p.length = 8 := by omega
          split at h3
          · simp at h3
          · rename_i h4
            split at h3
            · simp [lowF_length] at h3
            · rename_i h5
              split at h3
              · simp [lowF_length] at h3
              · rename_i h6
                have := lowF_valF p hpB
                rw [← hx1, hpl'] at this
                rw [if_neg h4, if_neg h5, if_neg h6, this]
    · rename_i h2; exact absurd h h2

theorem lowF_inj {n m : Int} {k : Nat} (hn : 0 ≤ n ∧ n < 256 ^ k) (hm : 0 ≤ m ∧ m < 256 ^ k) (h : lowF n k = lowF m k) : n = m := by
  have h1 := valF_lowF k n
  have h2 := valF_lowF k m
  rw [h] at h1
  rw [h1] at h2
  rwa [Int.emod_eq_of_lt hn.1 hn.2, Int.emod_eq_of_lt hm.1 hm.2] at h2
/-- no count is the beginning of another one -/
theorem countF_free {n m : Int} (hn : 0 ≤ n ∧ n < 18446744073709551616) (hm : 0 ≤ m ∧ m < 18446744073709551616) (h : countF n = (countF m).take (countF n).length) : n = m := by
  by_cases a1 : n < 253
  · by_cases b1 : m < 253
    · simp only [countF, a1, b1, if_true] at h
      simpa using h
    · exfalso
      by_cases b2 : m < 65536
      · simp only [countF, a1, b1, b2, if_true, if_false] at h; simp at h; omega
      · by_cases b3 : m < 4294967296
        · simp only [countF, a1, b1, b2, b3, if_true, if_false] at h; simp at h; omega
        · simp only [countF, a1, b1, b2, b3, if_true, if_false] at h; simp at h; omega
  · by_cases b1 : m < 253
    · exfalso
      by_cases a2 : n < 65536
      · simp only [countF, a1, b1, a2, if_true, if_false] at h; simp [lowF_length] at h; omega
      · by_cases a3 : n < 4294967296
        · simp only [countF, a1, b1, a2, a3, if_true, if_false] at h; simp [lowF_length] at h; omega
        · simp only [countF, a1, b1, a2, a3, if_true, if_false] at h; simp [lowF_length] at h; omega
    · by_cases a2 : n < 65536
      · by_cases b2 : m < 65536
        · simp only [countF, a1, b1, a2, b2, if_true, if_false, List.length_cons, List.take_succ_cons, lowF_length] at h
          have h' := (List.cons.inj h).2
          rw [List.take_of_length_le (by simp [lowF_length])] at h'
          exact lowF_inj ⟨hn.1, by simpa using a2⟩ ⟨hm.1, by simpa using b2⟩ h'
        · exfalso
          by_cases b3 : m < 4294967296
          · simp only [countF, a1, b1, a2, b2, b3, if_true, if_false, List.length_cons, List.take_succ_cons] at h; simp at h
          · simp only [countF, a1, b1, a2, b2, b3, if_true, if_false, List.length_cons, List.take_succ_cons] at h; simp at h
      · by_cases b2 : m < 65536
        · exfalso
          by_cases a3 : n < 4294967296
          · simp only [countF, a1, b1, a2, b2, a3, if_true, if_false, List.length_cons, List.take_succ_cons] at h; simp at h
          · simp only [countF, a1, b1, a2, b2, a3, if_true, if_false, List.length_cons, List.take_succ_cons] at h; simp at h
        · by_cases a3 : n < 4294967296
          · by_cases b3 : m < 4294967296
            · simp only [countF, a1, b1, a2, b2, a3, b3, if_true, if_false, List.length_cons, List.take_succ_cons, lowF_length] at h
              have h' := (List.cons.inj h).2
              rw [List.take_of_length_le (by simp [lowF_length])] at h'
              exact lowF_inj ⟨hn.1, by simpa using a3⟩ ⟨hm.1, by simpa using b3⟩ h'
            · exfalso
              simp only [countF, a1, b1, a2, b2, a3, b3, if_true, if_false, List.length_cons, List.take_succ_cons] at h; simp at h
          · by_cases b3 : m < 4294967296
            · exfalso
              simp only [countF, a1, b1, a2, b2, a3, b3, if_true, if_false, List.length_cons, List.take_succ_cons] at h; simp at h
            · simp only [countF, a1, b1, a2, b2, a3, b3, if_true, if_false, List.length_cons, List.take_succ_cons, lowF_length] at h
              have h' := (List.cons.inj h).2
              rw [List.take_of_length_le (by simp [lowF_length])] at h'
              exact lowF_inj ⟨hn.1, by simpa using hn.2⟩ ⟨hm.1, by simpa using hm.2⟩ h'

end Go.Proofs.Ytejablcdpakgoaa
