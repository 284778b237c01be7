/- The walk of the statement EndsOne. -/
import Derived.Test.YtpbnodomopdjhaaEndsI
namespace Go.Proofs.Ytpbnodomopdjhaa
open Go.RowKit Go.Proofs En
set_option linter.unusedVariables false
set_option linter.unusedSimpArgs false

theorem take_one_of {b : List Int} {v : Int} (h : partF b 0 1 = ([v], 0)) : b.take 1 = [v] := by
  obtain ⟨_, _, _, h4⟩ := partF_ok (b := b) (at_ := 0) (n := 1) (by rw [h])
  rw [h] at h4
  have := congrArg Prod.fst h4
  simpa using this.symm

/-- the count that was got stands there -/
theorem getCountF_same {b : List Int} (hB : IsB b) (h : (getCountF b 0).2.2 = 0) : countF (getCountF b 0).1 = b.take (getCountF b 0).2.1.toNat := by
  have hg0 : (getF b 0 1).2 = 0 := by
    unfold getCountF at h
    split at h
    · assumption
    · rename_i h1; exact absurd h h1
  obtain ⟨v, hv⟩ : ∃ v, getF b 0 1 = (v, 0) := ⟨_, Prod.ext rfl hg0⟩
  have h1 := take_one_of (getF_one hv)
  have hvb := getF_bound hB 0 1
  rw [hv] at hvb
  by_cases hlt : v < 253
  · have e : getCountF b 0 = (v, 0 + 1, 0) := by unfold getCountF; rw [hv]; simp only [hlt, if_true]
    rw [e]
    show countF v = b.take 1
    rw [h1]
    unfold countF
    rw [if_pos hlt]
  · have hm := manyF_or v
    have e : getCountF b 0 = if (getF b (0 + 1) (manyF v)).2 = 0 then (if ((countF (getF b (0 + 1) (manyF v)).1).length : Int) ≤ manyF v then (0, 0, 5) else ((getF b (0 + 1) (manyF v)).1, 0 + 1 + manyF v, 0)) else (0, 0, (getF b (0 + 1) (manyF v)).2) := by
      unfold getCountF; rw [hv]; simp only [hlt, if_true, if_false]
    rw [e] at h ⊢
    split at h
    · rename_i h2
      split at h
      · cases h
      · rename_i h3
        rw [if_pos h2, if_neg h3]
        obtain ⟨hs, hp, hx⟩ := getF_ok h2
        obtain ⟨_, _, hin, hpart⟩ := partF_ok hp
        have hpl := partF_length hp
        have hpB := partF_isB hB (0 + 1) (manyF v)
        have hxb := getF_bound hB (0 + 1) (manyF v)
        have hx1 : (getF b (0 + 1) (manyF v)).1 = valF (partF b (0 + 1) (manyF v)).1 := by rw [hx]
        have hp1 : (partF b (0 + 1) (manyF v)).1 = (b.drop 1).take (manyF v).toNat := by rw [hpart]; rfl
        have hv2 : v = 253 ∨ v = 254 ∨ v = 255 := by
          have : v < 256 := hvb.2.1
          omega
        have hcons : ∀ k : Nat, b.take (k + 1) = v :: (b.drop 1).take k := by
          intro k
          cases b with
          | nil => simp at h1
          | cons y ys =>
            have : y = v := by simpa using h1
            rw [this]; rfl
        show countF (getF b (0 + 1) (manyF v)).1 = b.take (0 + 1 + manyF v).toNat
        generalize hxx : (getF b (0 + 1) (manyF v)).1 = x at *
        generalize hpp : (partF b (0 + 1) (manyF v)).1 = p at *
        have hlow := lowF_valF p hpB
        have ht : (0 + 1 + manyF v).toNat = (manyF v).toNat + 1 := by omega
        rw [ht, hcons, ← hp1]
        rw [← hx1] at hlow
        unfold countF at h3 ⊢
        rcases hv2 with rfl | rfl | rfl
        · have em : manyF 253 = 2 := by decide
          rw [em] at h3 hpl hxb
          have hpl' : p.length = 2 := by omega
          have hlt2 : x < 65536 := by have := hxb.2.1; simpa using this
          split at h3
          · simp at h3
          · rename_i h4
            have := lowF_valF p hpB
            rw [← hx1, hpl'] at this
            rw [if_neg h4, if_pos hlt2, this]
        · have em : manyF 254 = 4 := by decide
          rw [em] at h3 hpl hxb
          have hpl' : p.length = 4 := by omega
          have hlt2 : x < 4294967296 := by have := hxb.2.1; simpa using this
          split at h3
          · simp at h3
          · rename_i h4
            split at h3
            · simp [lowF_length] at h3
            · rename_i h5
              have := lowF_valF p hpB
              rw [← hx1, hpl'] at this
              rw [if_neg h4, if_neg h5, if_pos hlt2, this]
        · have em : manyF 255 = 8 := by decide
          rw [em] at h3 hpl hxb
          have hpl' : p.length = 8 := by omega
          split at h3
          · simp at h3
          · rename_i h4
            split at h3
            · simp [lowF_length] at h3
            · rename_i h5
              split at h3
              · simp [lowF_length] at h3
              · rename_i h6
                have := lowF_valF p hpB
                rw [← hx1, hpl'] at this
                rw [if_neg h4, if_neg h5, if_neg h6, this]
    · rename_i h2; exact absurd h h2

theorem lowF_inj {n m : Int} {k : Nat} (hn : 0 ≤ n ∧ n < 256 ^ k) (hm : 0 ≤ m ∧ m < 256 ^ k) (h : lowF n k = lowF m k) : n = m := by
  have h1 := valF_lowF k n
  have h2 := valF_lowF k m
  rw [h] at h1
  rw [h1] at h2
  rwa [Int.emod_eq_of_lt hn.1 hn.2, Int.emod_eq_of_lt hm.1 hm.2] at h2
/-- no count is the beginning of another one -/
theorem countF_free {n m : Int} (hn : 0 ≤ n ∧ n < 18446744073709551616) (hm : 0 ≤ m ∧ m < 18446744073709551616) (h : countF n = (countF m).take (countF n).length) : n = m := by
  by_cases a1 : n < 253
  · by_cases b1 : m < 253
    · simp only [countF, a1, b1, if_true] at h
      simpa using h
    · exfalso
      by_cases b2 : m < 65536
      · simp only [countF, a1, b1, b2, if_true, if_false] at h; simp at h; omega
      · by_cases b3 : m < 4294967296
        · simp only [countF, a1, b1, b2, b3, if_true, if_false] at h; simp at h; omega
        · simp only [countF, a1, b1, b2, b3, if_true, if_false] at h; simp at h; omega
  · by_cases b1 : m < 253
    · exfalso
      by_cases a2 : n < 65536
      · simp only [countF, a1, b1, a2, if_true, if_false] at h; simp [lowF_length] at h; omega
      · by_cases a3 : n < 4294967296
        · simp only [countF, a1, b1, a2, a3, if_true, if_false] at h; simp [lowF_length] at h; omega
        · simp only [countF, a1, b1, a2, a3, if_true, if_false] at h; simp [lowF_length] at h; omega
    · by_cases a2 : n < 65536
      · by_cases b2 : m < 65536
        · simp only [countF, a1, b1, a2, b2, if_true, if_false, List.length_cons, List.take_succ_cons, lowF_length] at h
          have h' := (List.cons.inj h).2
          rw [List.take_of_length_le (by simp [lowF_length])] at h'
          exact lowF_inj ⟨hn.1, by simpa using a2⟩ ⟨hm.1, by simpa using b2⟩ h'
        · exfalso
          by_cases b3 : m < 4294967296
          · simp only [countF, a1, b1, a2, b2, b3, if_true, if_false, List.length_cons, List.take_succ_cons] at h; simp at h
          · simp only [countF, a1, b1, a2, b2, b3, if_true, if_false, List.length_cons, List.take_succ_cons] at h; simp at h
      · by_cases b2 : m < 65536
        · exfalso
          by_cases a3 : n < 4294967296
          · simp only [countF, a1, b1, a2, b2, a3, if_true, if_false, List.length_cons, List.take_succ_cons] at h; simp at h
          · simp only [countF, a1, b1, a2, b2, a3, if_true, if_false, List.length_cons, List.take_succ_cons] at h; simp at h
        · by_cases a3 : n < 4294967296
          · by_cases b3 : m < 4294967296
            · simp only [countF, a1, b1, a2, b2, a3, b3, if_true, if_false, List.length_cons, List.take_succ_cons, lowF_length] at h
              have h' := (List.cons.inj h).2
              rw [List.take_of_length_le (by simp [lowF_length])] at h'
              exact lowF_inj ⟨hn.1, by simpa using a3⟩ ⟨hm.1, by simpa using b3⟩ h'
            · exfalso
              simp only [countF, a1, b1, a2, b2, a3, b3, if_true, if_false, List.length_cons, List.take_succ_cons] at h; simp at h
          · by_cases b3 : m < 4294967296
            · exfalso
              simp only [countF, a1, b1, a2, b2, a3, b3, if_true, if_false, List.length_cons, List.take_succ_cons] at h; simp at h
            · simp only [countF, a1, b1, a2, b2, a3, b3, if_true, if_false, List.length_cons, List.take_succ_cons, lowF_length] at h
              have h' := (List.cons.inj h).2
              rw [List.take_of_length_le (by simp [lowF_length])] at h'
              exact lowF_inj ⟨hn.1, by simpa using hn.2⟩ ⟨hm.1, by simpa using hm.2⟩ h'

theorem RdN.pre {w : World} {k : IntKind} {A : Option Addr} {n : Nat} {xs : List Int} (h : RdN w k A n xs) {p : Nat} (hp : p ≤ n) : RdN w k A p (xs.take p) := by
  have h0 := RdN.sub h (lo := 0) (m := p) (by omega)
  rw [List.drop_zero] at h0
  rcases A with _ | a
  · exact h0
  · have e : a.add 0 = a := by unfold Addr.add; simp
    simp only [Option.map_some, e] at h0
    exact h0
theorem keep1 {w w1 w2 : World} {A : Option Addr} {n : Nat} {b : List Int} (h : Below w.heap.size w w1 ∧ RdN w1 .u8 A n b) (k : Below w1.heap.size w1 w2) : Below w.heap.size w w2 ∧ RdN w2 .u8 A n b := ⟨bThen h.1 k, h.2.below k⟩

set_option maxHeartbeats 1000000 in
theorem endsOne_walk (A : Option Addr) (len cap : Nat) (b : List Int) (n m : Int) (w : World) (hb : Arg w A len cap b) (hn : 0 ≤ n ∧ n < 18446744073709551616) (hm : 0 ≤ m ∧ m < 18446744073709551616) :
    Calls Try.prog 4 #[.slice A len cap, .int .u64 n, .int .u64 m] w fun e w' => e = .returned (.bool true) ∧ Below w.heap.size w w' := by
  have hl := hb.rd.len
  have hlen := hb.len
  have hbB := hb.isB
  have hcap := hb.cap
  have hokf : (getCountF b 0).2.2 = 0 → 0 ≤ (getCountF b 0).1 ∧ (getCountF b 0).1 < 18446744073709551616 ∧ 0 < (getCountF b 0).2.1 ∧ (getCountF b 0).2.1 ≤ len ∧ countF (getCountF b 0).1 = b.take (getCountF b 0).2.1.toNat := by
    intro h
    obtain ⟨h1, h2, _, h3, h4⟩ := getCountF_ok hbB h
    exact ⟨h1, h2, h3, by omega, getCountF_same hbB h⟩
  obtain ⟨x, at_, q, hg⟩ : ∃ p q r, getCountF b 0 = (p, q, r) := ⟨_, _, _, rfl⟩
  rw [hg] at hokf
  have hokf : q = 0 → 0 ≤ x ∧ x < 18446744073709551616 ∧ 0 < at_ ∧ at_ ≤ len ∧ countF x = b.take at_.toNat := hokf
  have C1 := Lib.hid (getCount_is hb (by omega) hg)
  have hfree := countF_free hn hm
  have hcn := countF_len n
  have hcm := countF_len m
  have CN := fun w' => count_any n w' hn
  have CM := fun w' => count_any m w' hm
  generalize countF n = cn at *
  generalize countF m = cm at *
  obtain ⟨ln, hln⟩ : ∃ l, l = cn.length := ⟨_, rfl⟩
  obtain ⟨lm, hlm⟩ : ∃ l, l = cm.length := ⟨_, rfl⟩
  rw [← hln] at CN hcn hfree
  rw [← hlm] at CM hcm
  have CN := Lib.hid CN
  have CM := Lib.hid CM
  have FR := Lib.hid hfree
  clear hfree hg hbB hln hlm
  by_cases hq : q = 0
  · subst hq
    obtain ⟨hx0, hx1, ha1, ha2, hsame⟩ := hokf rfl
    obtain ⟨p, rfl⟩ := Int.eq_ofNat_of_zero_le (show 0 ≤ at_ by omega)
    rw [Int.toNat_natCast] at hsame
    obtain ⟨ct, hct⟩ : ∃ ct, ct = b.take p := ⟨_, rfl⟩
    rw [← hct] at hsame
    have hcl : ct.length = p := by rw [hct, List.length_take, hl]; omega
    have SM := Lib.hid (And.intro hsame hct)
    clear hct
    have d1 : decide ((p : Int) < 1) = false := decide_eq_false (by omega)
    have d2 : decide ((p : Int) > len) = false := decide_eq_false (by omega)
    have d3 : decide (len < p) = false := decide_eq_false (by omega)
    have d4 : decide (cap < p) = false := decide_eq_false (by omega)
    have i1 : (0 : Int) ≤ (p : Int) := by omega
    have i2 : (p : Int) ≤ (cap : Int) := by omega
    have i3 : (p : Int) ≤ (len : Int) := by omega
    clear hsame hokf
    go_enter Try.func4, Try.ntmps4
    go_wp2_with (fail)
    refine C1.out.mono ?_
    rintro e w1 ⟨rfl, bl⟩
    have rb := hb.rd.below bl
    have hz := bl.size
    clear C1
    go_wp2_with (fail)
    go_region_held3 (fun w' => Below w.heap.size w w' ∧ RdN w' .u8 A len b) (first | exact ⟨bl.drew, rb.drew⟩ | assumption | exact keep1 ‹_› hbn)
      (first
       | (go_at_call 22; refine (count_is _ ⟨hx0, hx1⟩ SM.out.1).mono ?_; rintro e w' ⟨A', c', rfl, ho, hbn⟩)
       | (go_at_call 19; refine (same_is (r := true) (xs := ct) (ys := ct) (by have h9 := ho.rd; rw [hcl] at h9; exact h9) (by rw [SM.out.2]; exact RdN.pre (And.right ‹_›) (by omega)) (by omega) (decide_eq_true rfl)).mono ?_; rintro e w' ⟨rfl, hbn⟩))
    rename_i hh
    have bl := hh.1
    clear hh hbn ho rb
    go_wp2_with (fail)
    refine (CN.out _).mono ?_
    rintro e w4 ⟨A4, c4, rfl, ho4, b4⟩
    have r4 := ho4.rd
    have bl := bThen bl b4
    have hz := bl.size
    clear ho4 b4
    go_wp2_with (fail)
    refine (CM.out _).mono ?_
    rintro e w5 ⟨A5, c5, rfl, ho5, b5⟩
    have r5 := ho5.rd
    have r4 := r4.below b5
    have bl := bThen bl b5
    have hz := bl.size
    have hc5 := (Own.len_cap ho5).1
    clear ho5 b5
    by_cases hnm : n = m
    · have e1 : (n != m) = false := by rw [bne_eq_false_iff_eq]; exact hnm
      clear hnm
      go_wp2_with (fail)
      refine (works01_any _).mono ?_
      rintro e w6 ⟨rfl, b6⟩
      have bl := bThen bl b6
      clear b6
      go_wp2_with (fail)
      go_ret
      exact ⟨rfl, bl⟩
    · have e1 : (n != m) = true := by rw [bne_iff_ne]; exact hnm
      by_cases hle : ln ≤ lm
      · have e2 : decide (ln ≤ lm) = true := decide_eq_true hle
        have e3 : decide (lm < ln) = false := decide_eq_false (by omega)
        have e4 : decide (cn = cm.take ln) = false := decide_eq_false fun h => hnm (FR.out h)
        have j1 : (0 : Int) ≤ (ln : Int) := by omega
        have j2 : (ln : Int) ≤ (c5 : Int) := by omega
        have j3 : (ln : Int) ≤ (lm : Int) := by omega
        have r5 := RdN.pre r5 hle
        have E4 := Lib.hid e4
        obtain ⟨ct, hct⟩ : ∃ ct, ct = cm.take ln := ⟨_, rfl⟩
        rw [← hct] at E4 r5
        clear hnm hct e4
        go_wp2_with (fail)
        refine (same_is (r := false) r4 r5 (by omega) E4.out).mono ?_
        rintro e w6 ⟨rfl, b6⟩
        have bl := bThen bl b6
        have hz := bl.size
        clear b6 r4 r5
        go_wp2_with (fail)
        refine (works01_any _).mono ?_
        rintro e w7 ⟨rfl, b7⟩
        have bl := bThen bl b7
        clear b7
        go_wp2_with (fail)
        go_ret
        exact ⟨rfl, bl⟩
      · have e2 : decide (ln ≤ lm) = false := decide_eq_false hle
        clear hnm hle
        go_wp2_with (fail)
        refine (works01_any _).mono ?_
        rintro e w6 ⟨rfl, b6⟩
        have bl := bThen bl b6
        clear b6
        go_wp2_with (fail)
        go_ret
        exact ⟨rfl, bl⟩
  · have d1 : (q == 0) = false := by rw [beq_eq_false_iff_ne]; exact hq
    clear hq hokf
    go_enter Try.func4, Try.ntmps4
    go_wp2_with (fail)
    refine C1.out.mono ?_
    rintro e w1 ⟨rfl, bl⟩
    have hz := bl.size
    clear C1
    go_wp2_with (fail)
    go_quiet (fail)
    have bl := belN bl ‹Nat›
    go_wp2_with (fail)
    refine (CN.out _).mono ?_
    rintro e w4 ⟨A4, c4, rfl, ho4, b4⟩
    have r4 := ho4.rd
    have bl := bThen bl b4
    have hz := bl.size
    clear ho4 b4
    go_wp2_with (fail)
    refine (CM.out _).mono ?_
    rintro e w5 ⟨A5, c5, rfl, ho5, b5⟩
    have r5 := ho5.rd
    have r4 := r4.below b5
    have bl := bThen bl b5
    have hz := bl.size
    have hc5 := (Own.len_cap ho5).1
    clear ho5 b5
    by_cases hnm : n = m
    · have e1 : (n != m) = false := by rw [bne_eq_false_iff_eq]; exact hnm
      clear hnm
      go_wp2_with (fail)
      refine (works01_any _).mono ?_
      rintro e w6 ⟨rfl, b6⟩
      have bl := bThen bl b6
      clear b6
      go_wp2_with (fail)
      go_ret
      exact ⟨rfl, bl⟩
    · have e1 : (n != m) = true := by rw [bne_iff_ne]; exact hnm
      by_cases hle : ln ≤ lm
      · have e2 : decide (ln ≤ lm) = true := decide_eq_true hle
        have e3 : decide (lm < ln) = false := decide_eq_false (by omega)
        have e4 : decide (cn = cm.take ln) = false := decide_eq_false fun h => hnm (FR.out h)
        have j1 : (0 : Int) ≤ (ln : Int) := by omega
        have j2 : (ln : Int) ≤ (c5 : Int) := by omega
        have j3 : (ln : Int) ≤ (lm : Int) := by omega
        have r5 := RdN.pre r5 hle
        have E4 := Lib.hid e4
        obtain ⟨ct, hct⟩ : ∃ ct, ct = cm.take ln := ⟨_, rfl⟩
        rw [← hct] at E4 r5
        clear hnm hct e4
        go_wp2_with (fail)
        refine (same_is (r := false) r4 r5 (by omega) E4.out).mono ?_
        rintro e w6 ⟨rfl, b6⟩
        have bl := bThen bl b6
        have hz := bl.size
        clear b6 r4 r5
        go_wp2_with (fail)
        refine (works01_any _).mono ?_
        rintro e w7 ⟨rfl, b7⟩
        have bl := bThen bl b7
        clear b7
        go_wp2_with (fail)
        go_ret
        exact ⟨rfl, bl⟩
      · have e2 : decide (ln ≤ lm) = false := decide_eq_false hle
        clear hnm hle
        go_wp2_with (fail)
        refine (works01_any _).mono ?_
        rintro e w6 ⟨rfl, b6⟩
        have bl := bThen bl b6
        clear b6
        go_wp2_with (fail)
        go_ret
        exact ⟨rfl, bl⟩
end Go.Proofs.Ytpbnodomopdjhaa
