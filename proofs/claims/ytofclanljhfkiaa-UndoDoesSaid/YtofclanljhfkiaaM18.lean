/- Joined texts: Mid, CoinX, TbN, TbO, TbP. -/
import Derived.Test.YtofclanljhfkiaaM3
import Derived.Test.YtofclanljhfkiaaM4
import Derived.Test.YtofclanljhfkiaaM17
/- Plain laws of layer 1: what is put is got, what is got is put. -/
namespace Go.Proofs.Ytofclanljhfkiaa
open Go.RowKit Go.Proofs En
set_option linter.unusedVariables false
set_option linter.unusedSimpArgs false
set_option maxRecDepth 20000

theorem partF_mid (x y z : List Int) (i m : Int) (hi : i = x.length) (hm : m = y.length) : partF (x ++ y ++ z) i m = (y, 0) := by
  subst hi hm
  unfold partF
  simp only [List.length_append]
  rw [if_neg (by omega), if_neg (by omega), Int.toNat_natCast, Int.toNat_natCast, List.append_assoc, List.drop_left, List.take_left]
theorem getF_mid (x z : List Int) (n i m : Int) (hi : i = x.length) (hm : szB m = true) (hn : 0 ≤ n ∧ n < 256 ^ m.toNat) : getF (x ++ lowF n m.toNat ++ z) i m = (n, 0) := by
  have hm2 := szB_or hm
  have hp := partF_mid x (lowF n m.toNat) z i m hi (by rw [lowF_length]; omega)
  unfold getF
  rw [if_pos hm, hp, if_pos rfl, valF_lowF, Int.emod_eq_of_lt hn.1 hn.2]
theorem getF_mid1 (x z : List Int) (v i : Int) (hi : i = x.length) : getF (x ++ v :: z) i 1 = (v, 0) := by
  have hp := partF_mid x [v] z i 1 hi rfl
  rw [List.append_assoc, List.singleton_append] at hp
  unfold getF
  rw [if_pos (by decide), hp, if_pos rfl]
  simp [valF]
theorem getCountF_mid (x z : List Int) (n i : Int) (hi : i = x.length) (hn : 0 ≤ n ∧ n < 18446744073709551616) : getCountF (x ++ countF n ++ z) i = (n, i + (countF n).length, 0) := by
  have key : ∀ (v m : Int) (k : Nat), m = k → manyF v = m → ¬ v < 253 → countF n = v :: lowF n k → szB m = true → n < 256 ^ k → getCountF (x ++ countF n ++ z) i = (n, i + (countF n).length, 0) := by
    intro v m k hmk hmv hv hc hs hlt
    have hg1 : getF (x ++ countF n ++ z) i 1 = (v, 0) := by
      rw [hc, List.append_assoc, List.cons_append]
      exact getF_mid1 x _ v i hi
    have hk : m.toNat = k := by omega
    have hg2 : getF (x ++ countF n ++ z) (i + 1) m = (n, 0) := by
      have h := getF_mid (x ++ [v]) z n (i + 1) m (by simp [hi]) hs (by rw [hk]; exact ⟨hn.1, hlt⟩)
      rw [hk] at h
      rw [hc]
      simpa using h
    have hlen : (countF n).length = k + 1 := by rw [hc]; simp [lowF_length]
    unfold getCountF
    rw [hg1]
    simp only [hv, if_true, if_false, hmv, hg2]
    rw [if_neg (by rw [hlen]; omega), hlen]
    congr 2
    omega
  by_cases h1 : n < 253
  · have hc : countF n = [n] := by unfold countF; rw [if_pos h1]
    have hg1 : getF (x ++ countF n ++ z) i 1 = (n, 0) := by
      rw [hc, List.append_assoc]
      exact getF_mid1 x _ n i hi
    unfold getCountF
    rw [hg1]
    simp only [h1, if_true, hc]
    rfl
  · by_cases h2 : n < 65536
    · exact key 253 2 2 rfl (by decide) (by omega) (by unfold countF; rw [if_neg h1, if_pos h2]) (by decide) (by simpa using h2)
    · by_cases h3 : n < 4294967296
      · exact key 254 4 4 rfl (by decide) (by omega) (by unfold countF; rw [if_neg h1, if_neg h2, if_pos h3]) (by decide) (by simpa using h3)
      · exact key 255 8 8 rfl (by decide) (by omega) (by unfold countF; rw [if_neg h1, if_neg h2, if_neg h3]) (by decide) (by simpa using hn.2)
theorem getRowF_mid (x r z : List Int) (i most : Int) (hi : i = x.length) (hm : (r.length : Int) ≤ most) (hr : (r.length : Int) < 18446744073709551616) : getRowF (x ++ rowF r ++ z) i most = (r, i + (rowF r).length, 0) := by
  have hb : x ++ rowF r ++ z = x ++ countF r.length ++ (r ++ z) := by unfold rowF; simp
  have hc := getCountF_mid x (r ++ z) r.length i hi ⟨by omega, hr⟩
  have hp := partF_mid (x ++ countF r.length) r z (i + (countF r.length).length) r.length (by rw [hi, List.length_append]; omega) rfl
  rw [hb]
  unfold getRowF
  rw [hc]
  simp only [if_true]
  rw [if_neg (by omega)]
  rw [show x ++ countF (r.length : Int) ++ (r ++ z) = x ++ countF (r.length : Int) ++ r ++ z from by simp, hp]
  simp only [if_true]
  unfold rowF
  rw [List.length_append]
  congr 2
  omega
theorem putF_ok {n m : Int} (h : (putF n m).2 = 0) : szB m = true ∧ (8 ≤ m ∨ n < 256 ^ m.toNat) ∧ putF n m = (lowF n m.toNat, 0) := by
  unfold putF at *
  split at h
  · rename_i h1
    exact ⟨h1.1, h1.2, if_pos h1⟩
  · cases h
theorem take_one_of {b : List Int} {v : Int} (h : partF b 0 1 = ([v], 0)) : b.take 1 = [v] := by
  obtain ⟨_, _, _, h4⟩ := partF_ok (b := b) (at_ := 0) (n := 1) (by rw [h])
  rw [h] at h4
  have := congrArg Prod.fst h4
  simpa using this.symm

/-- the count that was got stands there -/
theorem getCountF_same {b : List Int} (hB : IsB b) (h : (getCountF b 0).2.2 = 0) : countF (getCountF b 0).1 = b.take (getCountF b 0).2.1.toNat := by
  have hg0 : (getF b 0 1).2 = 0 := by
    unfold getCountF at h
    split at h
    · assumption
    · rename_i h1; exact absurd h h1
  obtain ⟨v, hv⟩ : ∃ v, getF b 0 1 = (v, 0) := ⟨_, Prod.ext rfl hg0⟩
  have h1 := take_one_of (getF_one hv)
  have hvb := getF_bound hB 0 1
  rw [hv] at hvb
  by_cases hlt : v < 253
  · have e : getCountF b 0 = (v, 0 + 1, 0) := by unfold getCountF; rw [hv]; simp only [hlt, if_true]
    rw [e]
    show countF v = b.take 1
    rw [h1]
    unfold countF
    rw [if_pos hlt]
  · have hm := manyF_or v
    have e : getCountF b 0 = if (getF b (0 + 1) (manyF v)).2 = 0 then (if ((countF (getF b (0 + 1) (manyF v)).1).length : Int) ≤ manyF v then (0, 0, 5) else ((getF b (0 + 1) (manyF v)).1, 0 + 1 + manyF v, 0)) else (0, 0, (getF b (0 + 1) (manyF v)).2) := by
      unfold getCountF; rw [hv]; simp only [hlt, if_true, if_false]
    rw [e] at h ⊢
    split at h
    · rename_i h2
      split at h
      · cases h
      · rename_i h3
        rw [if_pos h2, if_neg h3]
        obtain ⟨hs, hp, hx⟩ := getF_ok h2
        obtain ⟨_, _, hin, hpart⟩ := partF_ok hp
        have hpl := partF_length hp
        have hpB := partF_isB hB (0 + 1) (manyF v)
        have hxb := getF_bound hB (0 + 1) (manyF v)
        have hx1 : (getF b (0 + 1) (manyF v)).1 = valF (partF b (0 + 1) (manyF v)).1 := by rw [hx]
        have hp1 : (partF b (0 + 1) (manyF v)).1 = (b.drop 1).take (manyF v).toNat := by rw [hpart]; rfl
        have hv2 : v = 253 ∨ v = 254 ∨ v = 255 := by
          have : v < 256 := hvb.2.1
          omega
        have hcons : ∀ k : Nat, b.take (k + 1) = v :: (b.drop 1).take k := by
          intro k
          cases b with
          | nil => simp at h1
          | cons y ys =>
            have : y = v := by simpa using h1
            rw [this]; rfl
        show countF (getF b (0 + 1) (manyF v)).1 = b.take (0 + 1 + manyF v).toNat
        generalize hxx : (getF b (0 + 1) (manyF v)).1 = x at *
        generalize hpp : (partF b (0 + 1) (manyF v)).1 = p at *
        have hlow := lowF_valF p hpB
        have ht : (0 + 1 + manyF v).toNat = (manyF v).toNat + 1 := by omega
        rw [ht, hcons, ← hp1]
        rw [← hx1] at hlow
        unfold countF at h3 ⊢
        rcases hv2 with rfl | rfl | rfl
        · have em : manyF 253 = 2 := by decide
          rw [em] at h3 hpl hxb
          have hpl' : p.length = 2 := by omega
          have hlt2 : x < 65536 := by have := hxb.2.1; simpa using this
          split at h3
          · simp at h3
          · rename_i h4
            have := lowF_valF p hpB
            rw [← hx1, hpl'] at this
            rw [if_neg h4, if_pos hlt2, this]
        · have em : manyF 254 = 4 := by decide
          rw [em] at h3 hpl hxb
          have hpl' : p.length = 4 := by omega
          have hlt2 : x < 4294967296 := by have := hxb.2.1; simpa using this
          split at h3
          · simp at h3
          · rename_i h4
            split at h3
            · simp [lowF_length] at h3
            · rename_i h5
              have := lowF_valF p hpB
              rw [← hx1, hpl'] at this
              rw [if_neg h4, if_neg h5, if_pos hlt2, this]
        · have em : manyF 255 = 8 := by decide
          rw [em] at h3 hpl hxb
          have hpl' : p.length = 8 := by omega
          split at h3
          · simp at h3
          · rename_i h4
            split at h3
            · simp [lowF_length] at h3
            · rename_i h5
              split at h3
              · simp [lowF_length] at h3
              · rename_i h6
                have := lowF_valF p hpB
                rw [← hx1, hpl'] at this
                rw [if_neg h4, if_neg h5, if_neg h6, this]
    · rename_i h2; exact absurd h h2

theorem lowF_inj {n m : Int} {k : Nat} (hn : 0 ≤ n ∧ n < 256 ^ k) (hm : 0 ≤ m ∧ m < 256 ^ k) (h : lowF n k = lowF m k) : n = m := by
  have h1 := valF_lowF k n
  have h2 := valF_lowF k m
  rw [h] at h1
  rw [h1] at h2
  rwa [Int.emod_eq_of_lt hn.1 hn.2, Int.emod_eq_of_lt hm.1 hm.2] at h2
/-- no count is the beginning of another one -/
theorem countF_free {n m : Int} (hn : 0 ≤ n ∧ n < 18446744073709551616) (hm : 0 ≤ m ∧ m < 18446744073709551616) (h : countF n = (countF m).take (countF n).length) : n = m := by
  by_cases a1 : n < 253
  · by_cases b1 : m < 253
    · simp only [countF, a1, b1, if_true] at h
      simpa using h
    · exfalso
      by_cases b2 : m < 65536
      · simp only [countF, a1, b1, b2, if_true, if_false] at h; simp at h; omega
      · by_cases b3 : m < 4294967296
        · simp only [countF, a1, b1, b2, b3, if_true, if_false] at h; simp at h; omega
        · simp only [countF, a1, b1, b2, b3, if_true, if_false] at h; simp at h; omega
  · by_cases b1 : m < 253
    · exfalso
      by_cases a2 : n < 65536
      · simp only [countF, a1, b1, a2, if_true, if_false] at h; simp [lowF_length] at h; omega
      · by_cases a3 : n < 4294967296
        · simp only [countF, a1, b1, a2, a3, if_true, if_false] at h; simp [lowF_length] at h; omega
        · simp only [countF, a1, b1, a2, a3, if_true, if_false] at h; simp [lowF_length] at h; omega
    · by_cases a2 : n < 65536
      · by_cases b2 : m < 65536
        · simp only [countF, a1, b1, a2, b2, if_true, if_false, List.length_cons, List.take_succ_cons, lowF_length] at h
          have h' := (List.cons.inj h).2
          rw [List.take_of_length_le (by simp [lowF_length])] at h'
          exact lowF_inj ⟨hn.1, by simpa using a2⟩ ⟨hm.1, by simpa using b2⟩ h'
        · exfalso
          by_cases b3 : m < 4294967296
          · simp only [countF, a1, b1, a2, b2, b3, if_true, if_false, List.length_cons, List.take_succ_cons] at h; simp at h
          · simp only [countF, a1, b1, a2, b2, b3, if_true, if_false, List.length_cons, List.take_succ_cons] at h; simp at h
      · by_cases b2 : m < 65536
        · exfalso
          by_cases a3 : n < 4294967296
          · simp only [countF, a1, b1, a2, b2, a3, if_true, if_false, List.length_cons, List.take_succ_cons] at h; simp at h
          · simp only [countF, a1, b1, a2, b2, a3, if_true, if_false, List.length_cons, List.take_succ_cons] at h; simp at h
        · by_cases a3 : n < 4294967296
          · by_cases b3 : m < 4294967296
            · simp only [countF, a1, b1, a2, b2, a3, b3, if_true, if_false, List.length_cons, List.take_succ_cons, lowF_length] at h
              have h' := (List.cons.inj h).2
              rw [List.take_of_length_le (by simp [lowF_length])] at h'
              exact lowF_inj ⟨hn.1, by simpa using a3⟩ ⟨hm.1, by simpa using b3⟩ h'
            · exfalso
              simp only [countF, a1, b1, a2, b2, a3, b3, if_true, if_false, List.length_cons, List.take_succ_cons] at h; simp at h
          · by_cases b3 : m < 4294967296
            · exfalso
              simp only [countF, a1, b1, a2, b2, a3, b3, if_true, if_false, List.length_cons, List.take_succ_cons] at h; simp at h
            · simp only [countF, a1, b1, a2, b2, a3, b3, if_true, if_false, List.length_cons, List.take_succ_cons, lowF_length] at h
              have h' := (List.cons.inj h).2
              rw [List.take_of_length_le (by simp [lowF_length])] at h'
              exact lowF_inj ⟨hn.1, by simpa using hn.2⟩ ⟨hm.1, by simpa using hm.2⟩ h'

end Go.Proofs.Ytofclanljhfkiaa
/- Plain laws of coins as bytes: what is put is got, what is got is put. -/
namespace Go.Proofs.Ytofclanljhfkiaa
open Go.RowKit Go.Proofs En Co
set_option linter.unusedVariables false
set_option linter.unusedSimpArgs false
set_option maxRecDepth 20000

theorem ptF_put {p : Pt} (hp : p.ok) : ptF (putPF p) = p := by
  have h2 : (getF (putPF p) 32 2).1 = p.n := by
    have := getF_mid p.tx (lowF p.h 4) p.n 32 2 (by rw [hp.len]; rfl) (by decide) ⟨hp.n.1, by have := hp.n.2; show p.n < 256 ^ 2; omega⟩
    unfold putPF
    rw [show lowF p.n 2 = lowF p.n ((2 : Int).toNat) from rfl, this]
  have h4 : (getF (putPF p) 34 4).1 = p.h := by
    have := getF_mid (p.tx ++ lowF p.n 2) [] p.h 34 4 (by rw [List.length_append, hp.len, lowF_length]; rfl) (by decide) ⟨hp.h.1, by have := hp.h.2; show p.h < 256 ^ 4; omega⟩
    rw [List.append_nil] at this
    unfold putPF
    rw [show lowF p.h 4 = lowF p.h ((4 : Int).toNat) from rfl, this]
  unfold ptF
  rw [h2, h4]
  have : (putPF p).take 32 = p.tx := by
    unfold putPF
    rw [List.append_assoc, List.take_append_of_le_length (by rw [hp.len]; exact Nat.le_refl _), List.take_of_length_le (by rw [hp.len]; exact Nat.le_refl _)]
  rw [this]
theorem getPF_mid (x z : List Int) {p : Pt} (hp : p.ok) (i : Int) (hi : i = x.length) : getPF (x ++ putPF p ++ z) i = (p, i + 38, 0) := by
  have hl : (putPF p).length = 38 := by unfold putPF; simp [hp.len, lowF_length]
  have := partF_mid x (putPF p) z i 38 hi (by rw [hl]; rfl)
  unfold getPF
  rw [this, if_pos rfl, ptF_put hp]
theorem put_get (x z : List Int) {c : Cn} {p : List Int} (hc : c.ok) (h : putCF c = (p, 0)) : getCF (x ++ p ++ z) x.length = (c, (x.length : Int) + p.length, 0) := by
  unfold putCF at h
  split at h
  · rename_i hm
    injection h with h _
    have hm2 := of_decide_eq_true hm
    have hl : (putPF c.p).length = 38 := by unfold putPF; simp [hc.p.len, lowF_length]
    have hv := hc.v
    have e1 : x ++ p ++ z = x ++ putPF c.p ++ (lowF c.v 8 ++ ([baseF c.base] ++ (rowF c.l ++ z))) := by rw [← h]; simp only [List.append_assoc]
    have e2 : x ++ p ++ z = (x ++ putPF c.p) ++ lowF c.v ((8 : Int).toNat) ++ ([baseF c.base] ++ (rowF c.l ++ z)) := by rw [← h]; show _ = (x ++ putPF c.p) ++ lowF c.v 8 ++ _; simp only [List.append_assoc]
    have e3 : x ++ p ++ z = (x ++ putPF c.p ++ lowF c.v 8) ++ baseF c.base :: (rowF c.l ++ z) := by rw [← h]; simp only [List.append_assoc, List.cons_append, List.nil_append]
    have e4 : x ++ p ++ z = (x ++ putPF c.p ++ lowF c.v 8 ++ [baseF c.base]) ++ rowF c.l ++ z := by rw [← h]; simp only [List.append_assoc]
    have g1 : getPF (x ++ p ++ z) x.length = (c.p, (x.length : Int) + 38, 0) := by rw [e1]; exact getPF_mid x _ hc.p _ rfl
    have g2 : getF (x ++ p ++ z) ((x.length : Int) + 38) 8 = (c.v, 0) := by
      rw [e2]; exact getF_mid _ _ c.v _ 8 (by rw [List.length_append, hl]; omega) (by decide) ⟨hv.1, by show c.v < 256 ^ 8; omega⟩
    have g2' : valueF (x ++ p ++ z) ((x.length : Int) + 38) = (c.v, 0) := by unfold valueF; rw [g2, if_neg (fun hh => by have := hm2.1; have := hh.2; simp only at this; omega)]
    have g3 : getF (x ++ p ++ z) ((x.length : Int) + 46) 1 = (baseF c.base, 0) := by
      rw [e3]; exact getF_mid1 _ _ _ _ (by simp only [List.length_append, hl, lowF_length]; omega)
    have g4 : getRowF (x ++ p ++ z) ((x.length : Int) + 47) 100 = (c.l, (x.length : Int) + 47 + (rowF c.l).length, 0) := by
      rw [e4]; exact getRowF_mid _ _ _ _ _ (by simp only [List.length_append, hl, lowF_length, List.length_cons, List.length_nil]; omega) (by omega) (by omega)
    have hb : ¬ (1 : Int) < baseF c.base := by unfold baseF; cases c.base <;> decide
    have hb2 : decide (baseF c.base = 1) = c.base := by unfold baseF; cases c.base <;> decide
    unfold getCF
    rw [g1]
    simp only [if_true]
    rw [g2', g3, g4]
    simp only [if_true, hb, if_false, hb2]
    have hpl : (p.length : Int) = 47 + (rowF c.l).length := by rw [← h]; simp only [List.length_append, hl, lowF_length, List.length_cons, List.length_nil]; omega
    rw [show (x.length : Int) + 47 + (rowF c.l).length = x.length + p.length by omega]
  · cases h

theorem partF_shift (b : List Int) (i : Nat) (j n : Int) (hi : i ≤ b.length) (hj : 0 ≤ j) : partF b (i + j) n = partF (b.drop i) j n := by
  unfold partF
  have hl : (b.drop i).length = b.length - i := List.length_drop
  have e : ((i : Int) + j).toNat = i + j.toNat := by omega
  rw [hl, List.drop_drop, e]
  by_cases h1 : ((i : Int) + j < 0 ∨ (b.length : Int) < i + j ∨ n < 0)
  · have r1 : (j < 0 ∨ ((b.length - i : Nat) : Int) < j ∨ n < 0) := by omega
    rw [if_pos h1, if_pos r1]
  · have r1 : ¬ (j < 0 ∨ ((b.length - i : Nat) : Int) < j ∨ n < 0) := by omega
    rw [if_neg h1, if_neg r1]
    by_cases h2 : (b.length : Int) - (i + j) < n
    · have r2 : ((b.length - i : Nat) : Int) - j < n := by omega
      rw [if_pos h2, if_pos r2]
    · have r2 : ¬ ((b.length - i : Nat) : Int) - j < n := by omega
      rw [if_neg h2, if_neg r2]
theorem getF_shift (b : List Int) (i : Nat) (j m : Int) (hi : i ≤ b.length) (hj : 0 ≤ j) : getF b (i + j) m = getF (b.drop i) j m := by
  unfold getF
  rw [partF_shift b i j m hi hj]
theorem getCountF_shift (b : List Int) (i : Nat) (hi : i ≤ b.length) : getCountF b i = ((getCountF (b.drop i) 0).1, (if (getCountF (b.drop i) 0).2.2 = 0 then i + (getCountF (b.drop i) 0).2.1 else 0), (getCountF (b.drop i) 0).2.2) := by
  have e0 : getF b i 1 = getF (b.drop i) 0 1 := by have := getF_shift b i 0 1 hi (by omega); rwa [Int.add_zero] at this
  have e1 := fun m => getF_shift b i 1 m hi (by omega)
  unfold getCountF
  rw [e0]
  by_cases h1 : (getF (b.drop i) 0 1).2 = 0
  · rw [if_pos h1, if_pos h1]
    by_cases h2 : (getF (b.drop i) 0 1).1 < 253
    · rw [if_pos h2, if_pos h2]; simp
    · rw [if_neg h2, if_neg h2, e1, show (0 : Int) + 1 = 1 from rfl]
      by_cases h3 : (getF (b.drop i) 1 (manyF (getF (b.drop i) 0 1).1)).2 = 0
      · rw [if_pos h3, if_pos h3]
        split
        · simp
        · simp; omega
      · rw [if_neg h3, if_neg h3]; simp [h3]
  · rw [if_neg h1, if_neg h1]; simp [h1]
theorem getF_back {b : List Int} (hB : IsB b) {i m x : Int} (h : getF b i m = (x, 0)) : lowF x m.toNat = (b.drop i.toNat).take m.toNat ∧ 0 ≤ i ∧ i + m ≤ b.length ∧ 0 ≤ m := by
  obtain ⟨_, h1, h2⟩ := getF_ok (b := b) (at_ := i) (m := m) (by rw [h])
  obtain ⟨h3, h4, h5, h6⟩ := partF_ok h1
  have hl := partF_length h1
  have hx : x = valF (partF b i m).1 := by rw [h] at h2; exact congrArg Prod.fst h2
  have := lowF_valF (partF b i m).1 (partF_isB hB i m)
  rw [← hx, show (partF b i m).1.length = m.toNat by omega] at this
  rw [this, h6]
  exact ⟨rfl, h3, h5, h4⟩
theorem getRowF_back {b : List Int} (hB : IsB b) {i : Nat} {most nx : Int} {l : List Int} (hi : i ≤ b.length) (h : getRowF b i most = (l, nx, 0)) : rowF l = (b.drop i).take (nx.toNat - i) ∧ i ≤ nx ∧ nx ≤ b.length ∧ (l.length : Int) ≤ most := by
  unfold getRowF at h
  have hs := getCountF_shift b i hi
  split at h
  · rename_i h1
    split at h
    · injection h with _ h; injection h with _ h; cases h
    · rename_i h2
      split at h
      · rename_i h3
        injection h with h4 h
        injection h with h5 _
        have h1' : (getCountF (b.drop i) 0).2.2 = 0 := by rw [hs] at h1; exact h1
        obtain ⟨k1, k2, _, k3, k4⟩ := getCountF_ok (hB.drop i) h1'
        have hsame := getCountF_same (hB.drop i) h1'
        rw [hs, if_pos h1'] at h2 h3 h4 h5
        simp only at h2 h3 h4 h5
        obtain ⟨p1, p2, p3, p4⟩ := partF_ok h3
        have hl := partF_length h3
        rw [h4] at hl
        rw [List.length_drop] at k4
        generalize hv : (getCountF (b.drop i) 0).1 = v at *
        generalize hn : (getCountF (b.drop i) 0).2.1 = q at *
        have hll : (l.length : Int) = v := hl
        have e4 : l = (b.drop ((i : Int) + q).toNat).take v.toNat := by rw [← h4, p4]
        refine ⟨?_, by omega, by omega, by omega⟩
        unfold rowF
        rw [hll, hsame]
        have e5 : nx.toNat - i = q.toNat + v.toNat := by omega
        rw [e5, List.take_add, List.drop_drop, show i + q.toNat = ((i : Int) + q).toNat by omega, ← e4]
      · rename_i h3
        injection h with _ h
        injection h with _ h
        exact absurd h h3
  · rename_i h1
    injection h with _ h
    injection h with _ h
    exact absurd h h1
theorem get_put {b : List Int} (hB : IsB b) {d : Cn} {nx : Int} (h : getCF b 0 = (d, nx, 0)) : putCF d = (b.take nx.toNat, 0) ∧ 0 ≤ nx ∧ nx ≤ b.length := by
  unfold getCF at h
  split at h
  · rename_i h1
    split at h
    · rename_i h2
      split at h
      · rename_i h3
        split at h
        · injection h with _ h; injection h with _ h; cases h
        · rename_i h4
          split at h
          · rename_i h5
            injection h with hd h
            injection h with hn _
            -- the pieces
            obtain ⟨v, hv⟩ : ∃ v, valueF b (0 + 38) = (v, 0) := ⟨_, Prod.ext rfl h2⟩
            obtain ⟨y, hy⟩ : ∃ v, getF b (0 + 46) 1 = (v, 0) := ⟨_, Prod.ext rfl h3⟩
            obtain ⟨l, q, hr⟩ : ∃ l q, getRowF b (0 + 47) 100 = (l, q, 0) := ⟨_, _, Prod.ext rfl (Prod.ext rfl h5)⟩
            rw [hv, hy, hr] at hd
            rw [hr] at hn
            rw [hy] at h4
            simp only at hd hn h4
            have hg8 : getF b (0 + 38) 8 = (v, 0) := by
              unfold valueF at hv
              split at hv
              · injection hv with _ hv; cases hv
              · exact hv
            have hvm : v ≤ maxM := by
              unfold valueF at hv
              split at hv
              · injection hv with _ hv; cases hv
              · rename_i hc; rw [hg8] at hc; exact Int.not_lt.1 (fun hh => hc ⟨rfl, hh⟩)
            obtain ⟨b1, b2, b3, _⟩ := getF_back hB hg8
            obtain ⟨c1, c2, c3, _⟩ := getF_back hB hy
            have c3' : 47 ≤ b.length := by omega
            obtain ⟨d1, d2, d3, d4⟩ := getRowF_back hB (i := 47) (by omega) hr
            have hp : (partF b 0 38).2 = 0 := by
              unfold getPF at h1
              split at h1
              · assumption
              · exact h1
            obtain ⟨_, _, p3, p4⟩ := partF_ok hp
            have hpt : (getPF b 0).1 = ptF (b.take 38) := by unfold getPF; rw [if_pos hp, p4]; rfl
            rw [hpt] at hd
            have hB38 : IsB (b.take 38) := hB.take 38
            have hl38 : (b.take 38).length = 38 := by rw [List.length_take]; omega
            have hput : putPF (ptF (b.take 38)) = b.take 38 := by
              obtain ⟨x2, e2⟩ : ∃ x, getF (b.take 38) 32 2 = (x, 0) := ⟨_, Prod.ext rfl (by unfold getF; rw [if_pos (by decide)]; unfold partF; rw [hl38]; rfl)⟩
              obtain ⟨x4, e4⟩ : ∃ x, getF (b.take 38) 34 4 = (x, 0) := ⟨_, Prod.ext rfl (by unfold getF; rw [if_pos (by decide)]; unfold partF; rw [hl38]; rfl)⟩
              have f2 := (getF_back hB38 e2).1
              have f4 := (getF_back hB38 e4).1
              unfold putPF ptF
              rw [e2, e4]
              show (b.take 38).take 32 ++ lowF x2 2 ++ lowF x4 4 = _
              have f2' : lowF x2 2 = ((b.take 38).drop 32).take 2 := f2
              have f4' : lowF x4 4 = ((b.take 38).drop 34).take 4 := f4
              rw [f2', f4', ← List.take_add, ← List.take_add]
              exact List.take_of_length_le (by omega)
            have hbase : [baseF (decide (y = 1))] = (b.drop 46).take 1 := by
              have c1' : lowF y 1 = (b.drop 46).take 1 := c1
              have hy0 : y = 0 ∨ y = 1 := by
                have := getF_bound hB (0 + 46) 1
                rw [hy] at this
                have := this.1
                simp only at this
                omega
              rw [← c1']
              rcases hy0 with rfl | rfl <;> rfl
            subst hd
            subst hn
            refine ⟨?_, by omega, d3⟩
            unfold putCF
            rw [if_pos (by unfold mayO; exact decide_eq_true ⟨hvm, by show l.length ≤ 100; omega⟩)]
            show (putPF (ptF (b.take 38)) ++ lowF v 8 ++ [baseF (decide (y = 1))] ++ rowF l, (0 : Int)) = _
            have b1' : lowF v 8 = (b.drop 38).take 8 := b1
            rw [hput, b1', hbase, d1, ← List.take_add, ← List.take_add, ← List.take_add, show 38 + 8 + 1 + (q.toNat - 47) = q.toNat by omega]
          · rename_i h5; injection h with _ h; injection h with _ h; exact absurd h h5
      · rename_i h3; injection h with _ h; injection h with _ h; exact absurd h h3
    · rename_i h2; injection h with _ h; injection h with _ h; exact absurd h h2
  · rename_i h1; injection h with _ h; injection h with _ h; exact absurd h h1
end Go.Proofs.Ytofclanljhfkiaa
/- TableHangs: All hangs on the coins alone. -/
namespace Go.Proofs.Ytofclanljhfkiaa
open Go.RowKit Go.Proofs En Co
set_option linter.unusedVariables false
set_option linter.unusedSimpArgs false
set_option maxRecDepth 20000
attribute [local go_sem ↓] ld_point_eq ld_coin_eq ld_hash_eq st_point_eq st_coin_eq bd_point_eq bd_coin_eq eq_point_eq ne_point_eq al_coin_eq al_point_eq bs_coin_eq
attribute [local go_sem] ld_point_run ld_coin_run ld_hash_run st_point_run st_coin_run bd_point_zero bd_coin_zero bd_point_of bd_coin_of hash_at rowIs_34 rowIs_37 rowIs_both hasAt_both cellsAt_both eq_point_run ne_point_run guard_pt al_coin_run al_point_run al_coin_row al_point_row nil_bytes nil_coins bs_coin_run

/-- all coins may be -/
def AllMay (ps : List (List Cn)) : Prop := ∀ c ∈ ps.flatten, mayO c.v c.l = true
theorem AllMay.nil : AllMay [] := fun c h => by cases h
theorem AllMay.put {ps : List (List Cn)} (h : AllMay ps) (c : Cn) : AllMay (putM ps c).1 := by
  unfold putM
  split
  · rename_i h1
    split
    · exact h
    · split
      · exact h
      · intro d hd
        rcases List.mem_cons.1 ((putF2_perm ps c).subset hd) with rfl | hd
        · exact h1
        · exact h d hd
  · exact h
theorem AllMay.take {ps : List (List Cn)} (h : AllMay ps) (p : Pt) : AllMay (takeM ps p).1 := by
  unfold takeM
  split
  · intro d hd
    have hd : d ∈ (takeF2 ps p).flatten := hd
    rw [lostF_flat] at hd
    exact h d (List.mem_filter.1 hd).1
  · exact h
theorem ArgP.pre {w : World} {B : Option Addr} {n c : Nat} {hs : List Cm} (h : ArgP w B n c hs) {k : Nat} (hk : k ≤ n) : ArgP w B k c (hs.take k) := by
  have hp := Part.ok.pre (size := 37) (A := B) (n := n) (c := c) (cs := pcs hs) ⟨h.rd, pcs_one⟩ hk
  have h1 := hp.1
  refine ⟨?_, fun m hm => h.ok m (List.mem_of_mem_take hm), by rw [List.length_take, h.len]; omega, Nat.le_trans hk h.cap, h.max⟩
  have e : (pcs hs).take (k * 37) = pcs (hs.take k) := pcs_take h.pok k
  rw [← e]
  exact h1
theorem far_of {w : World} {m : Cm} (h : m.ok w) {g : Nat} (hg : w.heap.size ≤ g) : 0 < m.c.l.length → blk m.A ≠ some g := by
  intro h0 e
  obtain ⟨ad, he, hb, _⟩ := h.arg.rd.2 h0
  rw [he] at e
  have e2 : ad.block = g := by simpa [blk] using e
  omega

/-- two tables -/
structure TwoS (w wr : World) (g1 : Nat) (P1 : Option Addr) (ps : List (List Cn)) (g2 : Nat) (P2 : Option Addr) (qs : List (List Cn)) : Prop where
  bel : Below w.heap.size w wr
  t : Tb wr w.heap.size g1 P1 ps
  u : Tb wr w.heap.size g2 P2 qs
  ne : g1 ≠ g2
  sep : ∀ k, blk P1 = some k → blk P2 ≠ some k
section
variable {w wr w2 : World} {g1 g2 : Nat} {P1 P2 P' : Option Addr} {ps qs rs : List (List Cn)}
theorem TwoS.below (h : TwoS w wr g1 P1 ps g2 P2 qs) (hb : Below wr.heap.size wr w2) : TwoS w w2 g1 P1 ps g2 P2 qs := ⟨bThen h.bel hb, h.t.below hb, h.u.below hb, h.ne, h.sep⟩
theorem TwoS.only1 (h : TwoS w wr g1 P1 ps g2 P2 qs) (ho : Only wr w2 g1 P1) (ht : Tb w2 w.heap.size g1 P' rs) (hk : Kept wr P1 P') : TwoS w w2 g1 P' rs g2 P2 qs := by
  refine ⟨h.bel.trans (h.t.frame ho), ht, h.u.only ho h.t.kinds h.ne.symm h.sep, h.ne, ?_⟩
  rcases hk with rfl | hk
  · exact h.sep
  · intro k h1 h2
    have := hk k h1
    have := (h.u.plow k h2).2
    omega
theorem TwoS.only2 (h : TwoS w wr g1 P1 ps g2 P2 qs) (ho : Only wr w2 g2 P2) (ht : Tb w2 w.heap.size g2 P' rs) (hk : Kept wr P2 P') : TwoS w w2 g1 P1 ps g2 P' rs := by
  refine ⟨h.bel.trans (h.u.frame ho), h.t.only ho h.u.kinds h.ne (fun k h1 h2 => h.sep k h2 h1), ht, h.ne, ?_⟩
  rcases hk with rfl | hk
  · exact h.sep
  · intro k h1 h2
    have := hk k h2
    have := (h.t.plow k h1).2
    omega
end
theorem back_next {qs : List (List Cn)} {l : List Cn} {k : Nat} {c : Cn} (hr : Rise (l.map Cn.p)) (hm : mayO c.v c.l = true) (hc : l[k]? = some c) (h : qs.flatten.Perm (l.drop (k + 1))) (hl : l.length ≤ 2000) : (putM qs c).2 = 0 ∧ (putM qs c).1.flatten.Perm (l.drop k) := by
  have hk := (List.getElem?_eq_some_iff.1 hc).1
  have ec := (List.getElem?_eq_some_iff.1 hc).2
  have hd : l.drop k = c :: l.drop (k + 1) := by rw [List.drop_eq_getElem_cons hk, ec]
  have hr2 : Rise ((l.drop k).map Cn.p) := hr.sub (List.Sublist.map _ (List.drop_sublist _ _))
  rw [hd] at hr2
  have hr3 := List.pairwise_cons.1 (show Rise (c.p :: (l.drop (k + 1)).map Cn.p) from hr2)
  have hf : findF qs c.p = none := findF_perm h fun d hd2 e => by
    have := hr3.1 d.p (List.mem_map.2 ⟨d, hd2, rfl⟩)
    rw [e, lessF_self] at this; cases this
  have hql : qs.flatten.length < 2000 := by rw [h.length_eq, List.length_drop]; omega
  rw [putM_ok hm hf hql]
  refine ⟨rfl, (putF2_perm qs c).trans ?_⟩
  rw [hd]
  exact (List.perm_cons c).2 h

set_option maxRecDepth 20000 in
set_option maxHeartbeats 4000000 in
theorem tableHangs_walk (B : Option Addr) (n c : Nat) (hs : List Cm) (w : World) (ha' : ArgP w B n c hs ∧ c ≤ 1759218604392) :
    Calls Try.prog 6 #[.slice B n c] w fun e w' => e = .returned (.bool true) ∧ Below w.heap.size w w' := by
  obtain ⟨ha, hc⟩ := ha'
  have hcap := ha.cap
  by_cases hn : n > 60
  · have HA := Lib.hid (ha.pre (k := 60) (by omega))
    have d0 : decide ((n : Int) > 60) = true := decide_eq_true (by omega)
    have j1 : (60 : Int) ≤ (c : Int) := by omega
    have j2 : (60 : Int) ≤ (n : Int) := by omega
    have j3 : (n : Int) ≤ (c : Int) := by omega
    clear ha
    go_enter Try.func6, Try.ntmps6
    go_wp2_with (fail)
    refine (new_m w).mono ?_
    rintro e w1 ⟨rfl, hT1, hb1⟩
    have NW := Lib.hid (new_m w1)
    have H1 := Lib.hid (And.intro hT1 hb1)
    clear hT1 hb1
    go_wp2_with (fail)
    refine NW.out.mono ?_
    rintro e w2 ⟨rfl, hT2, hb2⟩
    have hlt1 := H1.out.1.low.2
    have hsz1 := H1.out.2.size
    have s2 : TwoS w w2 w.heap.size none [] w1.heap.size none [] := ⟨bThen H1.out.2 hb2, H1.out.1.below hb2, hT2.mono hsz1, by omega, fun k h => by cases h⟩
    clear hT2 hb2
    generalize hgg : w1.heap.size = g2 at *
    have HG := Lib.hid hgg
    clear hgg
    go_wp2_with (fail)
    go_loopw [5] (fun i wr => ∃ (j : Nat) (P1 : Option Addr) (ps : List (List Cn)), j ≤ 60 ∧ i = .int .i64 j ∧ TwoS w wr w.heap.size P1 ps g2 none [] ∧ AllMay ps) (fun i _ => 60 - (intOf i).toNat)
    case atStart => exact ⟨0, none, [], by omega, rfl, s2, AllMay.nil⟩
    case round =>
      clear s2
      obtain ⟨j, P1, ps, hj, rfl, hs1, hmay⟩ := hrel
      by_cases hlt : j < 60
      · obtain ⟨ad, m, rfl, hm, hok, hbk, hcm⟩ := (HA.out.below hs1.bel).at_ hlt
        have hld := ld_coin_at wr (ad.add (j * 37)) m hok.c.p hcm
        have i1 : (0 : Int) ≤ (j : Int) := by omega
        have i2 : (j : Int) < (60 : Int) := by omega
        have PU := Lib.hid (put_m hs1.t m hok (far_of (HA.out.ok m (List.mem_of_getElem? hm)) (Nat.le_refl _)))
        have X := Lib.hid (And.intro hs1 (hmay.put m.c))
        clear hs1 hmay hm hok hcm
        go_wp2_with (fail)
        refine PU.out.mono ?_
        rintro e w3 ⟨rfl, P3, hT3, hk3, ho3⟩
        have Y := Lib.hid (X.out.1.only1 ho3 hT3 hk3)
        clear hT3 hk3 ho3
        go_wp2_with (fail)
        go_roundw
        case rel => exact ⟨j + 1, P3, _, by omega, by go_num, Y.out, X.out.2⟩
        case measure => simp [intOf]; omega
      · obtain rfl : j = 60 := by omega
        have AL := Lib.hid (all_m hs1.t)
        have hmost := hs1.t.most
        have hrise := hs1.t.rise
        obtain ⟨l, hl⟩ : ∃ l, ps.flatten = l := ⟨_, rfl⟩
        rw [hl] at AL hmost hrise
        have X := Lib.hid (And.intro hs1 (And.intro hmay (And.intro hl hrise)))
        clear hs1 hmay hrise hl
        go_wp2_with (fail)
        refine AL.out.mono ?_
        rintro e w3 ⟨A3, d3, hs3, rfl, hc3, ho3, hb3⟩
        have s3 := X.out.1.below hb3
        have o3 := ho3.mono X.out.1.bel.size
        have hw1 : IntKind.i64.wrap ((l.length : Int) - 1) = (l.length : Int) - 1 := wrap_i64s (by omega)
        have hcap3 := Own.len_cap o3.row
        have Y := Lib.hid (And.intro s3 (And.intro o3 hc3))
        clear s3 o3 hc3 ho3 hb3
        go_wp2_with (fail)
        go_loopw [7] (fun i wr => ∃ (z : Int) (k : Nat) (P2 : Option Addr) (qs : List (List Cn)), k ≤ l.length ∧ i = .int .i64 z ∧ z = (k : Int) - 1 ∧ TwoS w wr w.heap.size P1 ps g2 P2 qs ∧ OwnP wr w.heap.size A3 l.length d3 hs3 ∧ qs.flatten.Perm (l.drop k)) (fun i _ => (intOf i + 1).toNat)
        case atStart => exact ⟨_, l.length, none, [], by omega, rfl, rfl, Y.out.1, Y.out.2.1, by rw [List.drop_length]; exact List.Perm.refl _⟩
        case round =>
          obtain ⟨z, k, P2, qs, hk, rfl, hz, hs2, hown, hpm⟩ := hrel
          cases k with
          | zero =>
            obtain rfl : z = -1 := by omega
            have AL2 := Lib.hid (all_m hs2.u)
            have hqe : qs.flatten = l := rise_perm (by rw [List.drop_zero] at hpm; exact hpm) hs2.u.rise X.out.2.2.2
            rw [hqe] at AL2
            have V := Lib.hid (And.intro hs2 (And.intro hown hqe))
            clear hs2 hown hpm hqe hz
            go_wp2_with (fail)
            refine AL2.out.mono ?_
            rintro e w5 ⟨A5, d5, hs5, rfl, hc5, ho5, hb5⟩
            have s5 := V.out.1.below hb5
            have o5 := V.out.2.1.below hb5
            have SM := rsameL_any A5 l.length d5 hs5 A3 l.length d3 hs3 w5 ho5.arg o5.arg
            rw [show decide (cns hs5 = cns hs3) = true from decide_eq_true (by rw [hc5, Y.out.2.2])] at SM
            have S5 := Lib.hid s5
            have SM := Lib.hid SM
            clear s5 o5 hc5 ho5 hb5
            go_wp2_with (fail)
            refine SM.out.mono ?_
            rintro e w6 ⟨rfl, hb6⟩
            have s6 := S5.out.below hb6
            have SU := sum_m s6.u
            rw [V.out.2.2] at SU
            have S6 := Lib.hid s6
            clear s6 hb6
            go_wp2_with (fail)
            refine SU.mono ?_
            rintro e w7 ⟨rfl, hb7⟩
            have s7 := S6.out.below hb7
            have ST := sum_m s7.t
            rw [X.out.2.2.1] at ST
            have S7 := Lib.hid s7
            have dq : (worthF l == worthF l) = true := beq_self_eq_true _
            clear s7 hb7 SU
            go_wp2_with (fail)
            refine ST.mono ?_
            rintro e w8 ⟨rfl, hb8⟩
            have s8 := S7.out.below hb8
            have B8 := Lib.hid s8.bel
            clear s8 hb8 ST
            go_wp2_with (fail)
            refine (works24_any w8).mono ?_
            rintro e w9 ⟨rfl, hb9⟩
            have B9 := Lib.hid (bThen B8.out hb9)
            clear hb9
            go_wp2_with (fail)
            go_ret
            exact ⟨rfl, B9.out⟩
          | succ k =>
            obtain rfl : z = (k : Int) := by omega
            obtain ⟨ad, m, hA, hm, hok, hbk, hcm⟩ := hown.arg.at_ (k := k) (by omega)
            have hld := ld_coin_at wr (ad.add (k * 37)) m hok.c.p hcm
            have hlk : l[k]? = some m.c := by rw [← Y.out.2.2]; unfold cns; rw [List.getElem?_map, hm]; rfl
            have hmm : mayO m.c.v m.c.l = true := X.out.2.1 m.c (by rw [X.out.2.2.1]; exact List.mem_of_getElem? hlk)
            obtain ⟨b1, b2⟩ := back_next X.out.2.2.2 hmm hlk hpm hmost
            have hfar : 0 < m.c.l.length → blk m.A ≠ some g2 := fun _ e => by
              obtain ⟨np, cp, hr⟩ := hs2.u.row
              exact Own.ne_block (hown.ok m (List.mem_of_getElem? hm)).2.1 hr (by decide) e
            have PU := put_m hs2.u m hok hfar
            rw [b1] at PU
            have i1 : (0 : Int) ≤ (k : Int) := by omega
            have i2 : (k : Int) < (l.length : Int) := by omega
            have d1 : decide ((k : Int) ≥ 0) = true := decide_eq_true (by omega)
            have hw2 : IntKind.i64.wrap ((k : Int) - 1) = (k : Int) - 1 := wrap_i64s (by omega)
            have V := Lib.hid (And.intro hs2 (And.intro hown b2))
            have PU := Lib.hid PU
            have hA3 := hA
            subst hA3
            clear hs2 hown hpm b1 b2 hm hok hcm hlk hmm hfar hz
            go_wp2_with (fail)
            refine PU.out.mono ?_
            rintro e w5 ⟨rfl, P5, hT5, hk5, ho5⟩
            have U := Lib.hid (And.intro (V.out.1.only2 ho5 hT5 hk5) (V.out.2.1.only ho5 V.out.1.u.kinds))
            clear hT5 hk5 ho5
            go_wp2_with (fail)
            go_roundw
            case rel => exact ⟨_, k, P5, _, by omega, rfl, by omega, U.out.1, U.out.2, V.out.2.2⟩
            case measure => simp [intOf] <;> omega
  · have HA := Lib.hid ha
    have d0 : decide ((n : Int) > 60) = false := decide_eq_false (by omega)
    clear ha
    go_enter Try.func6, Try.ntmps6
    go_wp2_with (fail)
    refine (new_m w).mono ?_
    rintro e w1 ⟨rfl, hT1, hb1⟩
    have NW := Lib.hid (new_m w1)
    have H1 := Lib.hid (And.intro hT1 hb1)
    clear hT1 hb1
    go_wp2_with (fail)
    refine NW.out.mono ?_
    rintro e w2 ⟨rfl, hT2, hb2⟩
    have hlt1 := H1.out.1.low.2
    have hsz1 := H1.out.2.size
    have s2 : TwoS w w2 w.heap.size none [] w1.heap.size none [] := ⟨bThen H1.out.2 hb2, H1.out.1.below hb2, hT2.mono hsz1, by omega, fun k h => by cases h⟩
    clear hT2 hb2
    generalize hgg : w1.heap.size = g2 at *
    have HG := Lib.hid hgg
    clear hgg
    go_wp2_with (fail)
    go_loopw [5] (fun i wr => ∃ (j : Nat) (P1 : Option Addr) (ps : List (List Cn)), j ≤ n ∧ i = .int .i64 j ∧ TwoS w wr w.heap.size P1 ps g2 none [] ∧ AllMay ps) (fun i _ => n - (intOf i).toNat)
    case atStart => exact ⟨0, none, [], by omega, rfl, s2, AllMay.nil⟩
    case round =>
      clear s2
      obtain ⟨j, P1, ps, hj, rfl, hs1, hmay⟩ := hrel
      by_cases hlt : j < n
      · obtain ⟨ad, m, rfl, hm, hok, hbk, hcm⟩ := (HA.out.below hs1.bel).at_ hlt
        have hld := ld_coin_at wr (ad.add (j * 37)) m hok.c.p hcm
        have i1 : (0 : Int) ≤ (j : Int) := by omega
        have i2 : (j : Int) < (n : Int) := by omega
        have PU := Lib.hid (put_m hs1.t m hok (far_of (HA.out.ok m (List.mem_of_getElem? hm)) (Nat.le_refl _)))
        have X := Lib.hid (And.intro hs1 (hmay.put m.c))
        clear hs1 hmay hm hok hcm
        go_wp2_with (fail)
        refine PU.out.mono ?_
        rintro e w3 ⟨rfl, P3, hT3, hk3, ho3⟩
        have Y := Lib.hid (X.out.1.only1 ho3 hT3 hk3)
        clear hT3 hk3 ho3
        go_wp2_with (fail)
        go_roundw
        case rel => exact ⟨j + 1, P3, _, by omega, by go_num, Y.out, X.out.2⟩
        case measure => simp [intOf]; omega
      · obtain rfl : j = n := by omega
        have AL := Lib.hid (all_m hs1.t)
        have hmost := hs1.t.most
        have hrise := hs1.t.rise
        obtain ⟨l, hl⟩ : ∃ l, ps.flatten = l := ⟨_, rfl⟩
        rw [hl] at AL hmost hrise
        have X := Lib.hid (And.intro hs1 (And.intro hmay (And.intro hl hrise)))
        clear hs1 hmay hrise hl
        go_wp2_with (fail)
        refine AL.out.mono ?_
        rintro e w3 ⟨A3, d3, hs3, rfl, hc3, ho3, hb3⟩
        have s3 := X.out.1.below hb3
        have o3 := ho3.mono X.out.1.bel.size
        have hw1 : IntKind.i64.wrap ((l.length : Int) - 1) = (l.length : Int) - 1 := wrap_i64s (by omega)
        have hcap3 := Own.len_cap o3.row
        have Y := Lib.hid (And.intro s3 (And.intro o3 hc3))
        clear s3 o3 hc3 ho3 hb3
        go_wp2_with (fail)
        go_loopw [7] (fun i wr => ∃ (z : Int) (k : Nat) (P2 : Option Addr) (qs : List (List Cn)), k ≤ l.length ∧ i = .int .i64 z ∧ z = (k : Int) - 1 ∧ TwoS w wr w.heap.size P1 ps g2 P2 qs ∧ OwnP wr w.heap.size A3 l.length d3 hs3 ∧ qs.flatten.Perm (l.drop k)) (fun i _ => (intOf i + 1).toNat)
        case atStart => exact ⟨_, l.length, none, [], by omega, rfl, rfl, Y.out.1, Y.out.2.1, by rw [List.drop_length]; exact List.Perm.refl _⟩
        case round =>
          obtain ⟨z, k, P2, qs, hk, rfl, hz, hs2, hown, hpm⟩ := hrel
          cases k with
          | zero =>
            obtain rfl : z = -1 := by omega
            have AL2 := Lib.hid (all_m hs2.u)
            have hqe : qs.flatten = l := rise_perm (by rw [List.drop_zero] at hpm; exact hpm) hs2.u.rise X.out.2.2.2
            rw [hqe] at AL2
            have V := Lib.hid (And.intro hs2 (And.intro hown hqe))
            clear hs2 hown hpm hqe hz
            go_wp2_with (fail)
            refine AL2.out.mono ?_
            rintro e w5 ⟨A5, d5, hs5, rfl, hc5, ho5, hb5⟩
            have s5 := V.out.1.below hb5
            have o5 := V.out.2.1.below hb5
            have SM := rsameL_any A5 l.length d5 hs5 A3 l.length d3 hs3 w5 ho5.arg o5.arg
            rw [show decide (cns hs5 = cns hs3) = true from decide_eq_true (by rw [hc5, Y.out.2.2])] at SM
            have S5 := Lib.hid s5
            have SM := Lib.hid SM
            clear s5 o5 hc5 ho5 hb5
            go_wp2_with (fail)
            refine SM.out.mono ?_
            rintro e w6 ⟨rfl, hb6⟩
            have s6 := S5.out.below hb6
            have SU := sum_m s6.u
            rw [V.out.2.2] at SU
            have S6 := Lib.hid s6
            clear s6 hb6
            go_wp2_with (fail)
            refine SU.mono ?_
            rintro e w7 ⟨rfl, hb7⟩
            have s7 := S6.out.below hb7
            have ST := sum_m s7.t
            rw [X.out.2.2.1] at ST
            have S7 := Lib.hid s7
            have dq : (worthF l == worthF l) = true := beq_self_eq_true _
            clear s7 hb7 SU
            go_wp2_with (fail)
            refine ST.mono ?_
            rintro e w8 ⟨rfl, hb8⟩
            have s8 := S7.out.below hb8
            have B8 := Lib.hid s8.bel
            clear s8 hb8 ST
            go_wp2_with (fail)
            refine (works24_any w8).mono ?_
            rintro e w9 ⟨rfl, hb9⟩
            have B9 := Lib.hid (bThen B8.out hb9)
            clear hb9
            go_wp2_with (fail)
            go_ret
            exact ⟨rfl, B9.out⟩
          | succ k =>
            obtain rfl : z = (k : Int) := by omega
            obtain ⟨ad, m, hA, hm, hok, hbk, hcm⟩ := hown.arg.at_ (k := k) (by omega)
            have hld := ld_coin_at wr (ad.add (k * 37)) m hok.c.p hcm
            have hlk : l[k]? = some m.c := by rw [← Y.out.2.2]; unfold cns; rw [List.getElem?_map, hm]; rfl
            have hmm : mayO m.c.v m.c.l = true := X.out.2.1 m.c (by rw [X.out.2.2.1]; exact List.mem_of_getElem? hlk)
            obtain ⟨b1, b2⟩ := back_next X.out.2.2.2 hmm hlk hpm hmost
            have hfar : 0 < m.c.l.length → blk m.A ≠ some g2 := fun _ e => by
              obtain ⟨np, cp, hr⟩ := hs2.u.row
              exact Own.ne_block (hown.ok m (List.mem_of_getElem? hm)).2.1 hr (by decide) e
            have PU := put_m hs2.u m hok hfar
            rw [b1] at PU
            have i1 : (0 : Int) ≤ (k : Int) := by omega
            have i2 : (k : Int) < (l.length : Int) := by omega
            have d1 : decide ((k : Int) ≥ 0) = true := decide_eq_true (by omega)
            have hw2 : IntKind.i64.wrap ((k : Int) - 1) = (k : Int) - 1 := wrap_i64s (by omega)
            have V := Lib.hid (And.intro hs2 (And.intro hown b2))
            have PU := Lib.hid PU
            have hA3 := hA
            subst hA3
            clear hs2 hown hpm b1 b2 hm hok hcm hlk hmm hfar hz
            go_wp2_with (fail)
            refine PU.out.mono ?_
            rintro e w5 ⟨rfl, P5, hT5, hk5, ho5⟩
            have U := Lib.hid (And.intro (V.out.1.only2 ho5 hT5 hk5) (V.out.2.1.only ho5 V.out.1.u.kinds))
            clear hT5 hk5 ho5
            go_wp2_with (fail)
            go_roundw
            case rel => exact ⟨_, k, P5, _, by omega, rfl, by omega, U.out.1, U.out.2, V.out.2.2⟩
            case measure => simp [intOf] <;> omega
end Go.Proofs.Ytofclanljhfkiaa
/- Plain: a table's bytes are read as its pages; pages stay small. -/
namespace Go.Proofs.Ytofclanljhfkiaa
open Go.RowKit Go.Proofs En Co
set_option linter.unusedVariables false
set_option linter.unusedSimpArgs false
set_option maxRecDepth 20000

theorem putCF_may {c : Cn} (h : mayO c.v c.l = true) : putCF c = (putPF c.p ++ lowF c.v 8 ++ [baseF c.base] ++ rowF c.l, 0) := by unfold putCF; rw [if_pos h]
theorem putCF_bytes {c : Cn} (hc : c.ok) (h : mayO c.v c.l = true) : IsB (putCF c).1 := by
  rw [putCF_may h]
  refine IsB.append (IsB.append (IsB.append ?_ (lowF_isB _ _)) ?_) ?_
  · exact IsB.append (IsB.append hc.p.isB (lowF_isB _ _)) (lowF_isB _ _)
  · intro x hx
    rcases List.mem_singleton.1 hx with rfl
    unfold baseF
    split <;> decide
  · exact IsB.append (countF_isB (by omega)) hc.l
theorem coinsF_bytes {l : List Cn} (h : ∀ c ∈ l, c.ok ∧ mayO c.v c.l = true) : IsB (coinsF l) := by
  unfold coinsF
  induction l with
  | nil => exact IsB.nil
  | cons c r ih =>
    rw [List.flatMap_cons]
    exact IsB.append (putCF_bytes (h c (List.mem_cons_self ..)).1 (h c (List.mem_cons_self ..)).2) (ih fun x hx => h x (List.mem_cons_of_mem _ hx))
theorem tableF_bytes {ps : List (List Cn)} (h : ∀ c ∈ ps.flatten, c.ok ∧ mayO c.v c.l = true) : IsB (tableF ps) := by
  unfold tableF
  refine IsB.append (countF_isB (by omega)) ?_
  induction ps with
  | nil => exact IsB.nil
  | cons l r ih =>
    rw [List.flatMap_cons]
    refine IsB.append (IsB.append (countF_isB (by omega)) (coinsF_bytes fun c hc => h c ?_)) (ih fun c hc => h c ?_)
    · rw [List.flatten_cons]; exact List.mem_append_left _ hc
    · rw [List.flatten_cons]; exact List.mem_append_right _ hc
theorem coinsA_mid : ∀ (l : List Cn) (x z : List Int) (tot : Nat) (acc : List Cn), (∀ c ∈ l, c.ok ∧ mayO c.v c.l = true) → tot + l.length ≤ 2000 →
    coinsA (x ++ coinsF l ++ z) l.length x.length tot acc = (acc ++ l, (x.length : Int) + (coinsF l).length, 0)
  | [], x, z, tot, acc, _, _ => by simp [coinsA, coinsF]
  | c :: r, x, z, tot, acc, h, ht => by
    have hc := h c (List.mem_cons_self ..)
    have hp : putCF c = ((putCF c).1, 0) := by rw [putCF_may hc.2]
    have hg := put_get x (coinsF r ++ z) hc.1 hp
    have e1 : x ++ coinsF (c :: r) ++ z = x ++ (putCF c).1 ++ (coinsF r ++ z) := by
      unfold coinsF
      rw [List.flatMap_cons]
      simp only [List.append_assoc]
    rw [List.length_cons] at ht ⊢
    rw [e1, coinsA_next hg, if_pos rfl, if_neg (by omega)]
    have ih := coinsA_mid r (x ++ (putCF c).1) z (tot + 1) (acc ++ [c]) (fun d hd => h d (List.mem_cons_of_mem _ hd)) (by omega)
    have e2 : x ++ (putCF c).1 ++ (coinsF r ++ z) = x ++ (putCF c).1 ++ coinsF r ++ z := by simp only [List.append_assoc]
    rw [e2]
    rw [List.length_append, Int.natCast_add] at ih
    rw [ih]
    have e3 : (coinsF (c :: r)).length = (putCF c).1.length + (coinsF r).length := by unfold coinsF; rw [List.flatMap_cons, List.length_append]
    rw [e3]
    simp only [List.append_assoc, List.singleton_append, Prod.mk.injEq, true_and, and_true]
    omega
theorem pageR_mid (l : List Cn) (x z : List Int) (tot : Nat) (h : ∀ c ∈ l, c.ok ∧ mayO c.v c.l = true) (ht : tot + l.length ≤ 2000) :
    pageR (x ++ pageF l ++ z) x.length tot = (l, (x.length : Int) + (pageF l).length, decide (0 < l.length) && decide (l.length ≤ 8), 0) := by
  have e1 : x ++ pageF l ++ z = x ++ countF l.length ++ (coinsF l ++ z) := by unfold pageF; simp only [List.append_assoc]
  have hg := getCountF_mid x (coinsF l ++ z) l.length x.length rfl (by omega)
  have hc := coinsA_mid l (x ++ countF l.length) z tot [] h ht
  have e2 : x ++ countF l.length ++ (coinsF l ++ z) = x ++ countF l.length ++ coinsF l ++ z := by simp only [List.append_assoc]
  unfold pageR
  rw [e1, hg]
  simp only [if_true, Int.toNat_natCast]
  rw [e2]
  rw [List.length_append, Int.natCast_add] at hc
  rw [hc]
  simp only [if_true, List.nil_append, Prod.mk.injEq, true_and, and_true]
  refine ⟨?_, ?_⟩
  · unfold pageF; rw [List.length_append]; omega
  · congr 1
    · exact decide_eq_decide.2 (by omega)
    · exact decide_eq_decide.2 (by omega)
theorem pagesA_mid : ∀ (ps : List (List Cn)) (x z : List Int) (tot : Nat) (acc : List (List Cn)) (right : Bool), (∀ c ∈ ps.flatten, c.ok ∧ mayO c.v c.l = true) → (∀ l ∈ ps, 0 < l.length ∧ l.length ≤ 8) → tot + ps.flatten.length ≤ 2000 →
    pagesA (x ++ ps.flatMap pageF ++ z) ps.length x.length tot acc right = (acc ++ ps, (x.length : Int) + (ps.flatMap pageF).length, right, 0)
  | [], x, z, tot, acc, right, _, _, _ => by simp [pagesA]
  | l :: r, x, z, tot, acc, right, h, h2, ht => by
    rw [List.flatten_cons, List.length_append] at ht
    have hl := h2 l (List.mem_cons_self ..)
    have hp := pageR_mid l x (r.flatMap pageF ++ z) tot (fun c hc => h c (by rw [List.flatten_cons]; exact List.mem_append_left _ hc)) (by omega)
    have e1 : x ++ (l :: r).flatMap pageF ++ z = x ++ pageF l ++ (r.flatMap pageF ++ z) := by rw [List.flatMap_cons]; simp only [List.append_assoc]
    rw [List.length_cons, e1, pagesA_next hp, if_pos rfl]
    have e2 : x ++ pageF l ++ (r.flatMap pageF ++ z) = x ++ pageF l ++ r.flatMap pageF ++ z := by simp only [List.append_assoc]
    have ih := pagesA_mid r (x ++ pageF l) z (tot + l.length) (acc ++ [l]) right (fun c hc => h c (by rw [List.flatten_cons]; exact List.mem_append_right _ hc)) (fun a ha => h2 a (List.mem_cons_of_mem _ ha)) (by omega)
    rw [List.length_append, Int.natCast_add] at ih
    rw [e2, decide_eq_true hl.1, decide_eq_true hl.2, Bool.and_self, Bool.and_true, ih, List.flatMap_cons, List.length_append]
    simp only [List.append_assoc, List.singleton_append, Prod.mk.injEq, true_and, and_true]
    omega
/-- a table that is put is read -/
theorem readTF_table {ps : List (List Cn)} (h : ∀ c ∈ ps.flatten, c.ok ∧ mayO c.v c.l = true) (h2 : ∀ l ∈ ps, 0 < l.length ∧ l.length ≤ 8) (ht : ps.flatten.length ≤ 2000) (hr : Rise (ps.flatten.map Cn.p)) (hm : ps.length ≤ 2000) : readTF (tableF ps) = (ps, 0) := by
  have hg := getCountF_mid [] (ps.flatMap pageF) ps.length 0 rfl (by omega)
  rw [List.nil_append] at hg
  have hp := pagesA_mid ps (countF ps.length) [] 0 [] true h h2 (by omega)
  rw [List.append_nil] at hp
  unfold readTF tableF
  rw [hg]
  simp only [if_true, Int.toNat_natCast, Int.zero_add]
  rw [hp]
  have hb : riseB (ptsOf ps) = true := riseB_of.2 hr
  simp only [if_true, List.nil_append, hb, Bool.and_self, List.length_append]
  rw [if_pos]
  exact ⟨trivial, by omega⟩

/-! ### pages stay small -/
def Small8 (ps : List (List Cn)) : Prop := ∀ l ∈ ps, l.length ≤ 8
theorem Small8.put {ps : List (List Cn)} (h : Small8 ps) (c : Cn) : Small8 (putM ps c).1 := by
  unfold putM
  split
  · split
    · exact h
    · split
      · exact h
      · intro l hl
        show l.length ≤ 8
        have hl : l ∈ putF2 ps c := hl
        unfold putF2 at hl
        split at hl
        · rcases List.mem_singleton.1 hl with rfl; show 1 ≤ 8; omega
        · rename_i h0
          have hn := pageNk_lt ps c.p ps.length (by omega)
          have hq : (ps.getD (pageNk ps c.p ps.length) []).length ≤ 8 := by
            rw [List.getD_eq_getElem?_getD, List.getElem?_eq_getElem hn]
            exact h _ (List.getElem_mem ..)
          rcases List.mem_append.1 hl with hl | hl
          · rcases List.mem_append.1 hl with hl | hl
            · exact h l (List.mem_of_mem_take hl)
            · have hi := (insF_perm (ps.getD (pageNk ps c.p ps.length) []) c).length_eq
              rw [List.length_cons] at hi
              unfold cutF at hl
              split at hl
              · rcases List.mem_cons.1 hl with rfl | hl
                · rw [List.length_take]; omega
                · rcases List.mem_singleton.1 hl with rfl
                  rw [List.length_drop]; omega
              · rcases List.mem_singleton.1 hl with rfl
                omega
          · exact h l (List.mem_of_mem_drop hl)
  · exact h
theorem Small8.take {ps : List (List Cn)} (h : Small8 ps) (p : Pt) : Small8 (takeM ps p).1 := by
  unfold takeM
  split
  · intro l hl
    have hl : l ∈ takeF2 ps p := hl
    unfold takeF2 at hl
    obtain ⟨k, hk, rfl⟩ := List.mem_map.1 (List.mem_filter.1 hl).1
    exact Nat.le_trans (List.length_filter_le _ _) (h k hk)
  · exact h
theorem putM_len (ps : List (List Cn)) (c : Cn) : (putM ps c).1.flatten.length ≤ ps.flatten.length + 1 := by
  unfold putM
  split
  · split
    · exact Nat.le_succ _
    · split
      · exact Nat.le_succ _
      · have := (putF2_perm ps c).length_eq
        rw [List.length_cons] at this
        exact Nat.le_of_eq this
  · exact Nat.le_succ _
theorem takeM_len (ps : List (List Cn)) (p : Pt) : (takeM ps p).1.flatten.length ≤ ps.flatten.length := by
  unfold takeM
  split
  · show (takeF2 ps p).flatten.length ≤ _
    rw [lostF_flat]
    exact List.length_filter_le _ _
  · exact Nat.le_refl _
theorem pages_le {ps : List (List Cn)} (h : ∀ l ∈ ps, 0 < l.length) : ps.length ≤ ps.flatten.length := by
  induction ps with
  | nil => exact Nat.le_refl _
  | cons l r ih =>
    have h1 := h l (List.mem_cons_self ..)
    have h2 := ih fun x hx => h x (List.mem_cons_of_mem _ hx)
    rw [List.length_cons, List.flatten_cons, List.length_append]
    omega
end Go.Proofs.Ytofclanljhfkiaa
/- Acts in a row, opened; what is read of them. -/
namespace Go.Proofs.Ytofclanljhfkiaa
open Go.RowKit Go.Proofs En Co Go.ChangeShapes Go.WideShapes Go.Joins
set_option linter.unusedVariables false
set_option linter.unusedSimpArgs false
set_option maxRecDepth 20000

/-- what is done to a table: what, a coin, to which -/
structure Ac where
  d : Int
  m : Cm
  o : Bool
def ac (x : Ac) : List Value := .int .i64 x.d :: (cc x.m ++ [.bool x.o])
instance : Inhabited Ac := ⟨⟨0, ⟨zeroCn, none, 0⟩, false⟩⟩
theorem ac_len {x : Ac} (h : x.m.c.p.ok) : (ac x).length = 39 := by unfold ac; rw [List.length_cons, List.length_append, cc_length h]; rfl
structure ArgA (w : World) (B : Option Addr) (n c : Nat) (xa : List Ac) : Prop where
  rd : Rd w 39 B n (xa.flatMap ac)
  ok : ∀ a ∈ xa, (-9223372036854775808 ≤ a.d ∧ a.d ≤ 9223372036854775807) ∧ a.m.ok w
  len : xa.length = n
  cap : n ≤ c
  max : c ≤ maxLen
theorem ArgA.below {w w' : World} {B : Option Addr} {n c : Nat} {xa : List Ac} (h : ArgA w B n c xa) (hb : Below w.heap.size w w') : ArgA w' B n c xa :=
  ⟨h.rd.below hb, fun a ha => ⟨(h.ok a ha).1, (h.ok a ha).2.below hb⟩, h.len, h.cap, h.max⟩
theorem ArgA.at_ {w : World} {B : Option Addr} {n c : Nat} {xa : List Ac} (h : ArgA w B n c xa) {k : Nat} (hk : k < n) :
    ∃ ad a, B = some ad ∧ xa[k]? = some a ∧ a.m.ok w ∧ ad.block < w.heap.size ∧ w.cell? ((ad.add (k * 39)).add 0) = some (.int .i64 a.d) ∧ (∀ j v, (cc a.m)[j]? = some v → w.cell? (((ad.add (k * 39)).add 1).add j) = some v) ∧ w.cell? ((ad.add (k * 39)).add 38) = some (.bool a.o) := by
  obtain ⟨ad, e, hb, hc⟩ := h.rd.at_ hk
  have hl := h.len
  have hx : xa[k]? = some xa[k] := List.getElem?_eq_getElem (by omega)
  have hok := (h.ok _ (List.getElem_mem (by omega : k < xa.length))).2
  have hlen : ∀ x ∈ xa, (ac x).length = 39 := fun x hx => ac_len (h.ok x hx).2.c.p
  have hcl := cc_length hok.c.p
  have hcell : ∀ j, j < 39 → ∀ v, (ac xa[k])[j]? = some v → w.cell? ((ad.add (k * 39)).add j) = some v := by
    intro j hj v hv
    rw [add_add, hc j hj, flat_get hlen hx hj]
    exact hv
  refine ⟨ad, xa[k], e, hx, hok, hb, hcell 0 (by omega) _ rfl, fun j v hv => ?_, hcell 38 (by omega) _ ?_⟩
  · have hj := (List.getElem?_eq_some_iff.1 hv).1
    rw [hcl] at hj
    rw [add_add (ad.add (k * 39)) 1 j]
    refine hcell (1 + j) (by omega) v ?_
    unfold ac
    rw [Nat.add_comm 1 j, List.getElem?_cons_succ, List.getElem?_append_left (by rw [hcl]; exact hj)]
    exact hv
  · unfold ac
    rw [List.getElem?_cons_succ, List.getElem?_append_right (by rw [hcl]; omega), hcl]
    rfl

theorem cells_act : Try.prog.cellsOf 69 = 39 := by kernel_rfl
theorem cells_int : Try.prog.cellsOf 3 = 1 := by kernel_rfl
theorem bytes_act : Try.prog.bytesOf 69 = 96 := by kernel_rfl
section
variable {H : Type} {enc : TypeId × Value → H} {W : World} {base : Nat} {v : Value} {d : DataW H} {ps : List MemPlace}
theorem open_ac {fuel : Nat} {cs : List Value} {y : DataW H × List MemPlace} (hl : cs.length = 39) (h : DataW.trod enc Try.prog W 0 (fun _ => true) true fuel 69 cs = some y) (hs : Small Try.prog 69 y.1) :
    ∃ a : Ac, cs = ac a ∧ (-9223372036854775808 ≤ a.d ∧ a.d ≤ 9223372036854775807) ∧ a.m.ok W := by
  obtain ⟨y0, n0, h0, s0⟩ := open_field Try.underlying69 h hs (i := 0) rfl
  obtain ⟨y1, n1, h1, s1⟩ := open_field Try.underlying69 h hs (i := 1) rfl
  obtain ⟨y2, n2, h2, s2⟩ := open_field Try.underlying69 h hs (i := 2) rfl
  replace h0 : DataW.trod enc Try.prog W 0 (fun _ => true) true n0 3 ((cs.drop 0).take (Try.prog.cellsOf 3)) = some y0 := h0
  replace h1 : DataW.trod enc Try.prog W 0 (fun _ => true) true n1 57 ((cs.drop 1).take (Try.prog.cellsOf 57)) = some y1 := h1
  replace h2 : DataW.trod enc Try.prog W 0 (fun _ => true) true n2 4 ((cs.drop 38).take (Try.prog.cellsOf 4)) = some y2 := h2
  replace s1 : Small Try.prog 57 y1.1 := s1
  rw [cells_int, List.drop_zero] at h0
  rw [cells_coin] at h1
  rw [cells_bool] at h2
  obtain ⟨nn, e0, _, w0⟩ := DataW.trod_int Try.underlying3 h0
  obtain ⟨m, hm, e1, _⟩ := open_cn (by rw [List.length_take, List.length_drop]; omega) h1 s1
  obtain ⟨bb, e2, _⟩ := DataW.trod_bool Try.underlying4 h2
  refine ⟨⟨nn, m, bb⟩, ?_, bd64 w0, hm⟩
  have f0 : cs = cs.take 1 ++ ((cs.drop 1).take 37 ++ (cs.drop 38).take 1) := by
    have a1 : (cs.drop 38).take 1 = cs.drop 38 := List.take_of_length_le (by rw [List.length_drop]; omega)
    rw [a1, show cs.drop 38 = (cs.drop 1).drop 37 from by rw [List.drop_drop], List.take_append_drop, List.take_append_drop]
  rw [f0, e0, e1, e2]
  rfl
theorem arg_acts (hval : Value.okWide Try.prog W .any base 67 v) (h : DataW.Trod enc Try.prog W 0 (fun _ => true) true 67 v d ps) (hs : Small Try.prog 67 d) :
    ∃ B n c xa, v = .slice B n c ∧ (ArgA W B n c xa ∧ c ≤ 1466015503702) := by
  obtain ⟨A, n, c, rfl⟩ := okWide_slice Try.underlying67 hval
  obtain ⟨fuel, hf⟩ := h
  have hf : DataW.trod enc Try.prog W 0 (fun _ => true) true fuel 67 [.slice A n c] = some (d, ps) := by simpa [Value.cells] using hf
  rcases open_elems Try.underlying67 hf hs with he | ⟨a, len, cap, he, hl, hm, hr, hi⟩
  · injection he with e1 e2 e3
    subst e1 e2 e3
    exact ⟨none, 0, 0, [], rfl, ⟨Rd.nil _ _ _, (fun _ h => by cases h), rfl, Nat.le_refl _, Nat.zero_le _⟩, Nat.zero_le _⟩
  · injection he with e1 e2 e3
    subst e1 e2 e3
    rw [bytes_act] at hr
    unfold reachBytes at hr
    rw [cells_act] at hi
    obtain ⟨xs, h1, h2, h3, _⟩ := rows_of ac (fun a => (-9223372036854775808 ≤ a.d ∧ a.d ≤ 9223372036854775807) ∧ a.m.ok W) 39 (W := W) (a := a) (n := n) (by omega) (fun i hlt => by
      obtain ⟨cs', y, q, h1, h2, h3, h4⟩ := hi i hlt
      obtain ⟨x, rfl, hx1, hx2⟩ := open_ac h1 h3 h4
      exact ⟨x, h2, h1, hx1, hx2⟩)
    exact ⟨some a, n, c, xs, rfl, ⟨h2, h3, h1, hl, hm⟩, by omega⟩
end
end Go.Proofs.Ytofclanljhfkiaa
