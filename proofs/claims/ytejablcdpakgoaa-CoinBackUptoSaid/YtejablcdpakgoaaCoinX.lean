/- Plain laws of coins as bytes: what is put is got, what is got is put. -/
import Derived.Test.YtejablcdpakgoaaMid
import Derived.Test.YtejablcdpakgoaaCoinM
namespace Go.Proofs.Ytejablcdpakgoaa
open Go.RowKit Go.Proofs En Co
set_option linter.unusedVariables false
set_option linter.unusedSimpArgs false

theorem ptF_put {p : Pt} (hp : p.ok) : ptF (putPF p) = p := by
  have h2 : (getF (putPF p) 32 2).1 = p.n := by
    have := getF_mid p.tx (lowF p.h 4) p.n 32 2 (by rw [hp.len]; rfl) (by decide) ⟨hp.n.1, by have := hp.n.2; show p.n < 256 ^ 2; omega⟩
    unfold putPF
    rw [show lowF p.n 2 = lowF p.n ((2 : Int).toNat) from rfl, this]
  have h4 : (getF (putPF p) 34 4).1 = p.h := by
    have := getF_mid (p.tx ++ lowF p.n 2) [] p.h 34 4 (by rw [List.length_append, hp.len, lowF_length]; rfl) (by decide) ⟨hp.h.1, by have := hp.h.2; show p.h < 256 ^ 4; omega⟩
    rw [List.append_nil] at this
    unfold putPF
    rw [show lowF p.h 4 = lowF p.h ((4 : Int).toNat) from rfl, this]
  unfold ptF
  rw [h2, h4]
  have : (putPF p).take 32 = p.tx := by
    unfold putPF
    rw [List.append_assoc, List.take_append_of_le_length (by rw [hp.len]; exact Nat.le_refl _), List.take_of_length_le (by rw [hp.len]; exact Nat.le_refl _)]
  rw [this]
theorem getPF_mid (x z : List Int) {p : Pt} (hp : p.ok) (i : Int) (hi : i = x.length) : getPF (x ++ putPF p ++ z) i = (p, i + 38, 0) := by
  have hl : (putPF p).length = 38 := by unfold putPF; simp [hp.len, lowF_length]
  have := partF_mid x (putPF p) z i 38 hi (by rw [hl]; rfl)
  unfold getPF
  rw [this, if_pos rfl, ptF_put hp]
theorem put_get (x z : List Int) {c : Cn} {p : List Int} (hc : c.ok) (h : putCF c = (p, 0)) : getCF (x ++ p ++ z) x.length = (c, (x.length : Int) + p.length, 0) := by
  unfold putCF at h
  split at h
  · rename_i hm
    injection h with h _
    have hm2 := of_decide_eq_true hm
    have hl : (putPF c.p).length = 38 := by unfold putPF; simp [hc.p.len, lowF_length]
    have hv := hc.v
    have e1 : x ++ p ++ z = x ++ putPF c.p ++ (lowF c.v 8 ++ ([baseF c.base] ++ (rowF c.l ++ z))) := by rw [← h]; simp only [List.append_assoc]
    have e2 : x ++ p ++ z = (x ++ putPF c.p) ++ lowF c.v ((8 : Int).toNat) ++ ([baseF c.base] ++ (rowF c.l ++ z)) := by rw [← h]; show _ = (x ++ putPF c.p) ++ lowF c.v 8 ++ _; simp only [List.append_assoc]
    have e3 : x ++ p ++ z = (x ++ putPF c.p ++ lowF c.v 8) ++ baseF c.base :: (rowF c.l ++ z) := by rw [← h]; simp only [List.append_assoc, List.cons_append, List.nil_append]
    have e4 : x ++ p ++ z = (x ++ putPF c.p ++ lowF c.v 8 ++ [baseF c.base]) ++ rowF c.l ++ z := by rw [← h]; simp only [List.append_assoc]
    have g1 : getPF (x ++ p ++ z) x.length = (c.p, (x.length : Int) + 38, 0) := by rw [e1]; exact getPF_mid x _ hc.p _ rfl
    have g2 : getF (x ++ p ++ z) ((x.length : Int) + 38) 8 = (c.v, 0) := by
      rw [e2]; exact getF_mid _ _ c.v _ 8 (by rw [List.length_append, hl]; omega) (by decide) ⟨hv.1, by show c.v < 256 ^ 8; omega⟩
    have g2' : valueF (x ++ p ++ z) ((x.length : Int) + 38) = (c.v, 0) := by unfold valueF; rw [g2, if_neg (fun hh => by have := hm2.1; have := hh.2; simp only at this; omega)]
    have g3 : getF (x ++ p ++ z) ((x.length : Int) + 46) 1 = (baseF c.base, 0) := by
      rw [e3]; exact getF_mid1 _ _ _ _ (by simp only [List.length_append, hl, lowF_length]; omega)
    have g4 : getRowF (x ++ p ++ z) ((x.length : Int) + 47) 100 = (c.l, (x.length : Int) + 47 + (rowF c.l).length, 0) := by
      rw [e4]; exact getRowF_mid _ _ _ _ _ (by simp only [List.length_append, hl, lowF_length, List.length_cons, List.length_nil]; omega) (by omega) (by omega)
    have hb : ¬ (1 : Int) < baseF c.base := by unfold baseF; cases c.base <;> decide
    have hb2 : decide (baseF c.base = 1) = c.base := by unfold baseF; cases c.base <;> decide
    unfold getCF
    rw [g1]
    simp only [if_true]
    rw [g2', g3, g4]
    simp only [if_true, hb, if_false, hb2]
    have hpl : (p.length : Int) = 47 + (rowF c.l).length := by rw [← h]; simp only [List.length_append, hl, lowF_length, List.length_cons, List.length_nil]; omega
    rw [show (x.length : Int) + 47 + (rowF c.l).length = x.length + p.length by omega]
  · cases h

theorem partF_shift (b : List Int) (i : Nat) (j n : Int) (hi : i ≤ b.length) (hj : 0 ≤ j) : partF b (i + j) n = partF (b.drop i) j n := by
  unfold partF
  have hl : (b.drop i).length = b.length - i := List.length_drop
  have e : ((i : Int) + j).toNat = i + j.toNat := by omega
  rw [hl, List.drop_drop, e]
  by_cases h1 : ((i : Int) + j < 0 ∨ (b.length : Int) < i + j ∨ n < 0)
  · have r1 : (j < 0 ∨ ((b.length - i : Nat) : Int) < j ∨ n < 0) := by omega
    rw [if_pos h1, if_pos r1]
  · have r1 : ¬ (j < 0 ∨ ((b.length - i : Nat) : Int) < j ∨ n < 0) := by omega
    rw [if_neg h1, if_neg r1]
    by_cases h2 : (b.length : Int) - (i + j) < n
    · have r2 : ((b.length - i : Nat) : Int) - j < n := by omega
      rw [if_pos h2, if_pos r2]
    · have r2 : ¬ ((b.length - i : Nat) : Int) - j < n := by omega
      rw [if_neg h2, if_neg r2]
theorem getF_shift (b : List Int) (i : Nat) (j m : Int) (hi : i ≤ b.length) (hj : 0 ≤ j) : getF b (i + j) m = getF (b.drop i) j m := by
  unfold getF
  rw [partF_shift b i j m hi hj]
theorem getCountF_shift (b : List Int) (i : Nat) (hi : i ≤ b.length) : getCountF b i = ((getCountF (b.drop i) 0).1, (if (getCountF (b.drop i) 0).2.2 = 0 then i + (getCountF (b.drop i) 0).2.1 else 0), (getCountF (b.drop i) 0).2.2) := by
  have e0 : getF b i 1 = getF (b.drop i) 0 1 := by have := getF_shift b i 0 1 hi (by omega); rwa [Int.add_zero] at this
  have e1 := fun m => getF_shift b i 1 m hi (by omega)
  unfold getCountF
  rw [e0]
  by_cases h1 : (getF (b.drop i) 0 1).2 = 0
  · rw [if_pos h1, if_pos h1]
    by_cases h2 : (getF (b.drop i) 0 1).1 < 253
    · rw [if_pos h2, if_pos h2]; simp
    · rw [if_neg h2, if_neg h2, e1, show (0 : Int) + 1 = 1 from rfl]
      by_cases h3 : (getF (b.drop i) 1 (manyF (getF (b.drop i) 0 1).1)).2 = 0
      · rw [if_pos h3, if_pos h3]
        split
        · simp
        · simp; omega
      · rw [if_neg h3, if_neg h3]; simp [h3]
  · rw [if_neg h1, if_neg h1]; simp [h1]
theorem getF_back {b : List Int} (hB : IsB b) {i m x : Int} (h : getF b i m = (x, 0)) : lowF x m.toNat = (b.drop i.toNat).take m.toNat ∧ 0 ≤ i ∧ i + m ≤ b.length ∧ 0 ≤ m := by
  obtain ⟨_, h1, h2⟩ := getF_ok (b := b) (at_ := i) (m := m) (by rw [h])
  obtain ⟨h3, h4, h5, h6⟩ := partF_ok h1
  have hl := partF_length h1
  have hx : x = valF (partF b i m).1 := by rw [h] at h2; exact congrArg Prod.fst h2
  have := lowF_valF (partF b i m).1 (partF_isB hB i m)
  rw [← hx, show (partF b i m).1.length = m.toNat by omega] at this
  rw [this, h6]
  exact ⟨rfl, h3, h5, h4⟩
theorem getRowF_back {b : List Int} (hB : IsB b) {i : Nat} {most nx : Int} {l : List Int} (hi : i ≤ b.length) (h : getRowF b i most = (l, nx, 0)) : rowF l = (b.drop i).take (nx.toNat - i) ∧ i ≤ nx ∧ nx ≤ b.length ∧ (l.length : Int) ≤ most := by
  unfold getRowF at h
  have hs := getCountF_shift b i hi
  split at h
  · rename_i h1
    split at h
    · injection h with _ h; injection h with _ h; cases h
    · rename_i h2
      split at h
      · rename_i h3
        injection h with h4 h
        injection h with h5 _
        have h1' : (getCountF (b.drop i) 0).2.2 = 0 := by rw [hs] at h1; exact h1
        obtain ⟨k1, k2, _, k3, k4⟩ := getCountF_ok (hB.drop i) h1'
        have hsame := getCountF_same (hB.drop i) h1'
        rw [hs, if_pos h1'] at h2 h3 h4 h5
        simp only at h2 h3 h4 h5
        obtain ⟨p1, p2, p3, p4⟩ := partF_ok h3
        have hl := partF_length h3
        rw [h4] at hl
        rw [List.length_drop] at k4
        generalize hv : (getCountF (b.drop i) 0).1 = v at *
        generalize hn : (getCountF (b.drop i) 0).2.1 = q at *
        have hll : (l.length : Int) = v := hl
        have e4 : l = (b.drop ((i : Int) + q).toNat).take v.toNat := by rw [← h4, p4]
        refine ⟨?_, by omega, by omega, by omega⟩
        unfold rowF
        rw [hll, hsame]
        have e5 : nx.toNat - i = q.toNat + v.toNat := by omega
        rw [e5, List.take_add, List.drop_drop, show i + q.toNat = ((i : Int) + q).toNat by omega, ← e4]
      · rename_i h3
        injection h with _ h
        injection h with _ h
        exact absurd h h3
  · rename_i h1
    injection h with _ h
    injection h with _ h
    exact absurd h h1
theorem get_put {b : List Int} (hB : IsB b) {d : Cn} {nx : Int} (h : getCF b 0 = (d, nx, 0)) : putCF d = (b.take nx.toNat, 0) ∧ 0 ≤ nx ∧ nx ≤ b.length := by
  unfold getCF at h
  split at h
  · rename_i h1
    split at h
    · rename_i h2
      split at h
      · rename_i h3
        split at h
        · injection h with _ h; injection h with _ h; cases h
        · rename_i h4
          split at h
          · rename_i h5
            injection h with hd h
            injection h with hn _
            -- the pieces
            obtain ⟨v, hv⟩ : ∃ v, valueF b (0 + 38) = (v, 0) := ⟨_, Prod.ext rfl h2⟩
            obtain ⟨y, hy⟩ : ∃ v, getF b (0 + 46) 1 = (v, 0) := ⟨_, Prod.ext rfl h3⟩
            obtain ⟨l, q, hr⟩ : ∃ l q, getRowF b (0 + 47) 100 = (l, q, 0) := ⟨_, _, Prod.ext rfl (Prod.ext rfl h5)⟩
            rw [hv, hy, hr] at hd
            rw [hr] at hn
            rw [hy] at h4
            simp only at hd hn h4
            have hg8 : getF b (0 + 38) 8 = (v, 0) := by
              unfold valueF at hv
              split at hv
              · injection hv with _ hv; cases hv
              · exact hv
            have hvm : v ≤ maxM := by
              unfold valueF at hv
              split at hv
              · injection hv with _ hv; cases hv
              · rename_i hc; rw [hg8] at hc; exact Int.not_lt.1 (fun hh => hc ⟨rfl, hh⟩)
            obtain ⟨b1, b2, b3, _⟩ := getF_back hB hg8
            obtain ⟨c1, c2, c3, _⟩ := getF_back hB hy
            have c3' : 47 ≤ b.length := by omega
            obtain ⟨d1, d2, d3, d4⟩ := getRowF_back hB (i := 47) (by omega) hr
            have hp : (partF b 0 38).2 = 0 := by
              unfold getPF at h1
              split at h1
              · assumption
              · exact h1
            obtain ⟨_, _, p3, p4⟩ := partF_ok hp
            have hpt : (getPF b 0).1 = ptF (b.take 38) := by unfold getPF; rw [if_pos hp, p4]; rfl
            rw [hpt] at hd
            have hB38 : IsB (b.take 38) := hB.take 38
            have hl38 : (b.take 38).length = 38 := by rw [List.length_take]; omega
            have hput : putPF (ptF (b.take 38)) = b.take 38 := by
              obtain ⟨x2, e2⟩ : ∃ x, getF (b.take 38) 32 2 = (x, 0) := ⟨_, Prod.ext rfl (by unfold getF; rw [if_pos (by decide)]; unfold partF; rw [hl38]; rfl)⟩
              obtain ⟨x4, e4⟩ : ∃ x, getF (b.take 38) 34 4 = (x, 0) := ⟨_, Prod.ext rfl (by unfold getF; rw [if_pos (by decide)]; unfold partF; rw [hl38]; rfl)⟩
              have f2 := (getF_back hB38 e2).1
              have f4 := (getF_back hB38 e4).1
              unfold putPF ptF
              rw [e2, e4]
              show (b.take 38).take 32 ++ lowF x2 2 ++ lowF x4 4 = _
              have f2' : lowF x2 2 = ((b.take 38).drop 32).take 2 := f2
              have f4' : lowF x4 4 = ((b.take 38).drop 34).take 4 := f4
              rw [f2', f4', ← List.take_add, ← List.take_add]
              exact List.take_of_length_le (by omega)
            have hbase : [baseF (decide (y = 1))] = (b.drop 46).take 1 := by
              have c1' : lowF y 1 = (b.drop 46).take 1 := c1
              have hy0 : y = 0 ∨ y = 1 := by
                have := getF_bound hB (0 + 46) 1
                rw [hy] at this
                have := this.1
                simp only at this
                omega
              rw [← c1']
              rcases hy0 with rfl | rfl <;> rfl
            subst hd
            subst hn
            refine ⟨?_, by omega, d3⟩
            unfold putCF
            rw [if_pos (by unfold mayO; exact decide_eq_true ⟨hvm, by show l.length ≤ 100; omega⟩)]
            show (putPF (ptF (b.take 38)) ++ lowF v 8 ++ [baseF (decide (y = 1))] ++ rowF l, (0 : Int)) = _
            have b1' : lowF v 8 = (b.drop 38).take 8 := b1
            rw [hput, b1', hbase, d1, ← List.take_add, ← List.take_add, ← List.take_add, show 38 + 8 + 1 + (q.toNat - 47) = q.toNat by omega]
          · rename_i h5; injection h with _ h; injection h with _ h; exact absurd h h5
      · rename_i h3; injection h with _ h; injection h with _ h; exact absurd h h3
    · rename_i h2; injection h with _ h; injection h with _ h; exact absurd h h2
  · rename_i h1; injection h with _ h; injection h with _ h; exact absurd h h1
end Go.Proofs.Ytejablcdpakgoaa
