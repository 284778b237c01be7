/- What is put is got: plain laws of numbers and rows as bytes. -/
import Derived.Test.YtpbnodomopdjhaaEndsJ
namespace Go.Proofs.Ytpbnodomopdjhaa
open Go.RowKit Go.Proofs En
set_option linter.unusedVariables false
set_option linter.unusedSimpArgs false

theorem partF_mid (x y z : List Int) (i m : Int) (hi : i = x.length) (hm : m = y.length) : partF (x ++ y ++ z) i m = (y, 0) := by
  subst hi hm
  unfold partF
  simp only [List.length_append]
  rw [if_neg (by omega), if_neg (by omega), Int.toNat_natCast, Int.toNat_natCast, List.append_assoc, List.drop_left, List.take_left]
theorem getF_mid (x z : List Int) (n i m : Int) (hi : i = x.length) (hm : szB m = true) (hn : 0 ≤ n ∧ n < 256 ^ m.toNat) : getF (x ++ lowF n m.toNat ++ z) i m = (n, 0) := by
  have hm2 := szB_or hm
  have hp := partF_mid x (lowF n m.toNat) z i m hi (by rw [lowF_length]; omega)
  unfold getF
  rw [if_pos hm, hp, if_pos rfl, valF_lowF, Int.emod_eq_of_lt hn.1 hn.2]
theorem getF_mid1 (x z : List Int) (v i : Int) (hi : i = x.length) : getF (x ++ v :: z) i 1 = (v, 0) := by
  have hp := partF_mid x [v] z i 1 hi rfl
  rw [List.append_assoc, List.singleton_append] at hp
  unfold getF
  rw [if_pos (by decide), hp, if_pos rfl]
  simp [valF]
theorem getCountF_mid (x z : List Int) (n i : Int) (hi : i = x.length) (hn : 0 ≤ n ∧ n < 18446744073709551616) : getCountF (x ++ countF n ++ z) i = (n, i + (countF n).length, 0) := by
  have key : ∀ (v m : Int) (k : Nat), m = k → manyF v = m → ¬ v < 253 → countF n = v :: lowF n k → szB m = true → n < 256 ^ k → getCountF (x ++ countF n ++ z) i = (n, i + (countF n).length, 0) := by
    intro v m k hmk hmv hv hc hs hlt
    have hg1 : getF (x ++ countF n ++ z) i 1 = (v, 0) := by
      rw [hc, List.append_assoc, List.cons_append]
      exact getF_mid1 x _ v i hi
    have hk : m.toNat = k := by omega
    have hg2 : getF (x ++ countF n ++ z) (i + 1) m = (n, 0) := by
      have h := getF_mid (x ++ [v]) z n (i + 1) m (by simp [hi]) hs (by rw [hk]; exact ⟨hn.1, hlt⟩)
      rw [hk] at h
      rw [hc]
      simpa using h
    have hlen : (countF n).length = k + 1 := by rw [hc]; simp [lowF_length]
    unfold getCountF
    rw [hg1]
    simp only [hv, if_true, if_false, hmv, hg2]
    rw [if_neg (by rw [hlen]; omega), hlen]
    congr 2
    omega
  by_cases h1 : n < 253
  · have hc : countF n = [n] := by unfold countF; rw [if_pos h1]
    have hg1 : getF (x ++ countF n ++ z) i 1 = (n, 0) := by
      rw [hc, List.append_assoc]
      exact getF_mid1 x _ n i hi
    unfold getCountF
    rw [hg1]
    simp only [h1, if_true, hc]
    rfl
  · by_cases h2 : n < 65536
    · exact key 253 2 2 rfl (by decide) (by omega) (by unfold countF; rw [if_neg h1, if_pos h2]) (by decide) (by simpa using h2)
    · by_cases h3 : n < 4294967296
      · exact key 254 4 4 rfl (by decide) (by omega) (by unfold countF; rw [if_neg h1, if_neg h2, if_pos h3]) (by decide) (by simpa using h3)
      · exact key 255 8 8 rfl (by decide) (by omega) (by unfold countF; rw [if_neg h1, if_neg h2, if_neg h3]) (by decide) (by simpa using hn.2)
theorem getRowF_mid (x r z : List Int) (i most : Int) (hi : i = x.length) (hm : (r.length : Int) ≤ most) (hr : (r.length : Int) < 18446744073709551616) : getRowF (x ++ rowF r ++ z) i most = (r, i + (rowF r).length, 0) := by
  have hb : x ++ rowF r ++ z = x ++ countF r.length ++ (r ++ z) := by unfold rowF; simp
  have hc := getCountF_mid x (r ++ z) r.length i hi ⟨by omega, hr⟩
  have hp := partF_mid (x ++ countF r.length) r z (i + (countF r.length).length) r.length (by rw [hi, List.length_append]; omega) rfl
  rw [hb]
  unfold getRowF
  rw [hc]
  simp only [if_true]
  rw [if_neg (by omega)]
  rw [show x ++ countF (r.length : Int) ++ (r ++ z) = x ++ countF (r.length : Int) ++ r ++ z from by simp, hp]
  simp only [if_true]
  unfold rowF
  rw [List.length_append]
  congr 2
  omega
theorem putF_ok {n m : Int} (h : (putF n m).2 = 0) : szB m = true ∧ (8 ≤ m ∨ n < 256 ^ m.toNat) ∧ putF n m = (lowF n m.toNat, 0) := by
  unfold putF at *
  split at h
  · rename_i h1
    exact ⟨h1.1, h1.2, if_pos h1⟩
  · cases h
end Go.Proofs.Ytpbnodomopdjhaa
