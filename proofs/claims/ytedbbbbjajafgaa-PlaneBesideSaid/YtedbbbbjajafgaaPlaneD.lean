/- What the reference of layer 5 answers: Of, Back, Turn. -/
import Derived.Test.YtedbbbbjajafgaaPlaneC
namespace Go.Proofs.Ytedbbbbjajafgaa
open Go.RowKit Go.Proofs Fl
set_option linter.unusedVariables false
set_option linter.unusedSimpArgs false

/-- two whole numbers in a block of their own -/
def spotB (z : Int × Int) : Obj := .cells #[.int .i64 z.1, .int .i64 z.2] 23

set_option maxRecDepth 100000 in
set_option maxHeartbeats 400000 in
theorem rof_small (n : Nat) (w : World) (hn : n < 1099511627776) :
    Calls Try.prog 17 #[.int .u64 n] w fun e w' => e = .returned (.tuple #[.agg #[.int .i64 (Pl.V n 40).1, .int .i64 (Pl.V n 40).2], .int .i64 0]) ∧ Below w.heap.size w w' := by
  have hge : decide ((n : Int) ≥ 1099511627776) = false := by rw [decide_eq_false_iff_not]; omega
  have hn' : (n : Int) < 1099511627776 := by omega
  clear hn
  go_enter Try.func17, Try.ntmps17
  go_wp2
  go_loopw [0, 6] (fun x i wr => ∃ k : Nat, k ≤ 40 ∧ x = .int .u64 ((n / 2 ^ k : Nat) : Int) ∧ i = .int .i64 k ∧ wr = ((w.alloc (spotB (0, 0))).alloc (spotB (Pl.zz n k))).alloc (spotB (Pl.pw k))) (fun _ i _ => 40 - (intOf i).toNat)
  case atStart => exact ⟨0, by omega, by simp, rfl, rfl⟩
  case round =>
    obtain ⟨k, hk, rfl, rfl, rfl⟩ := hrel
    obtain ⟨x, hx⟩ : ∃ x, x = n / 2 ^ k := ⟨_, rfl⟩
    have hxl : x ≤ n := by rw [hx]; exact Nat.div_le_self _ _
    have hs := @Pl.V_le n k hk
    rw [← Pl.zz_eq] at hs
    have hp := Pl.pw_le ⟨k, by omega⟩
    simp only [] at hp
    have hpw : Pl.pw (k + 1) = (-(Pl.pw k).1 - (Pl.pw k).2, (Pl.pw k).1 - (Pl.pw k).2) := rfl
    have hzz : Pl.zz n (k + 1) = if n / 2 ^ k % 2 = 1 then ((Pl.zz n k).1 + (Pl.pw k).1, (Pl.zz n k).2 + (Pl.pw k).2) else Pl.zz n k := rfl
    have hx2 : n / 2 ^ (k + 1) = x / 2 := by rw [hx, Nat.div_div_eq_div_mul, Nat.pow_succ]
    have e2 : ((x / 2 : Nat) : Int) = (x : Int) / 2 := by omega
    rw [← hx] at hzz ⊢
    have hend : k = 40 → Pl.zz n k = Pl.V n 40 := fun h => by rw [← Pl.zz_eq, h]
    have E := Lib.hid (And.intro hx2 (And.intro hpw (And.intro hzz (And.intro e2 hend))))
    clear hx2 hpw hzz e2 hend hx
    generalize Pl.zz n k = z at *
    generalize Pl.pw k = p at *
    obtain ⟨za, zb⟩ := z
    obtain ⟨pa, pb⟩ := p
    unfold spotB
    simp only [] at hs hp ⊢
    by_cases hk40 : k = 40
    · have hv := E.out.2.2.2.2 hk40
      have H3 := Lib.hid hv
      clear hv
      have hkk : (k : Int) ≥ 40 := by omega
      clear hk40 hge hn' hxl hs hp
      go_wp2
      refine bodyPost_ret (v := .tuple #[.agg #[.int .i64 za, .int .i64 zb], .int .i64 0]) (by simp [results, Try.results17, go_sem]) rfl ⟨by rw [← H3.out], ?_⟩
      exact (((Below.refl _ _).alloc (Nat.le_refl _) _).alloc (by simp) _).alloc (by simp; omega) _
    · have hkk : (k : Int) < 40 := by omega
      clear hk40
      by_cases hd : x % 2 = 1
      · have hd' : ((x : Int) % 2 == 1) = true := by rw [beq_iff_eq]; omega
        have H2 : Hid (x % 2 = 1) := Lib.hid hd
        clear hd
        go_wp2
        go_roundw
        case rel =>
          refine ⟨k + 1, by omega, ?_, ?_, ?_⟩
          · rw [E.out.1, E.out.2.2.2.1]
          · go_num
          · rw [E.out.2.1, E.out.2.2.1, if_pos H2.out]
        case measure => simp [intOf]; omega
      · have hd' : ((x : Int) % 2 == 1) = false := by rw [beq_eq_false_iff_ne]; omega
        have H2 : Hid (¬ x % 2 = 1) := Lib.hid hd
        clear hd
        go_wp2
        go_roundw
        case rel =>
          refine ⟨k + 1, by omega, ?_, ?_, ?_⟩
          · rw [E.out.1, E.out.2.2.2.1]
          · go_num
          · rw [E.out.2.1, E.out.2.2.1, if_neg H2.out]
        case measure => simp [intOf]; omega
set_option maxHeartbeats 400000 in
theorem rof_big (n : Int) (w : World) (hn : 1099511627776 ≤ n) :
    Calls Try.prog 17 #[.int .u64 n] w fun e w' => e = .returned (.tuple #[.agg #[.int .i64 0, .int .i64 0], .int .i64 3]) ∧ Below w.heap.size w w' := by
  have hge : decide (n ≥ 1099511627776) = true := by rw [decide_eq_true_eq]; omega
  go_enter Try.func17, Try.ntmps17
  go_wp2
  refine bodyPost_ret (v := .tuple #[.agg #[.int .i64 0, .int .i64 0], .int .i64 3]) (by simp [results, Try.results17, go_sem]) rfl ⟨rfl, ?_⟩
  exact (Below.refl _ _).alloc (Nat.le_refl _) _

theorem rof_any (n : Nat) (w : World) :
    Calls Try.prog 17 #[.int .u64 n] w fun e w' => e = .returned (.tuple #[.agg #[.int .i64 (Pl.ofF n).1.1, .int .i64 (Pl.ofF n).1.2], .int .i64 (Pl.ofF n).2]) ∧ Below w.heap.size w w' := by
  unfold Pl.ofF
  by_cases h : n < 1099511627776
  · rw [if_pos h]; exact rof_small n w h
  · rw [if_neg h]; exact rof_big n w (by omega)

theorem tmod_two (x : Int) : (x.tmod 2 != 0) = (x % 2 != 0) := by
  have h : x.tmod 2 = 0 ↔ x % 2 = 0 := by
    constructor
    · intro h; exact Int.emod_eq_zero_of_dvd (Int.dvd_of_tmod_eq_zero h)
    · intro h; exact Int.tmod_eq_zero_of_dvd (Int.dvd_of_emod_eq_zero h)
  by_cases hx : x % 2 = 0
  · rw [hx, h.2 hx]
  · have h2 : ¬ x.tmod 2 = 0 := fun h3 => hx (h.1 h3)
    rw [bne_iff_ne.2 hx, bne_iff_ne.2 h2]

set_option maxRecDepth 100000 in
set_option maxHeartbeats 400000 in
theorem rback_yes (z : Int × Int) (w : World) (h : Pl.inr z) :
    Calls Try.prog 12 #[.agg #[.int .i64 z.1, .int .i64 z.2]] w fun e w' => e = .returned (.tuple #[.int .u64 (Pl.backF z).1, .int .i64 (Pl.backF z).2]) ∧ Below w.heap.size w w' := by
  have hB : Hid (Pl.backF z = if Pl.st 40 z = (0, 0) then (Pl.num 40 z, 0) else (0, 6)) := Lib.hid (by unfold Pl.backF; rw [if_pos h])
  have t1 : decide (z.1 ≤ -4194304) = false := by unfold Pl.inr at h; rw [decide_eq_false_iff_not]; omega
  have t2 : decide (z.1 ≥ 4194304) = false := by unfold Pl.inr at h; rw [decide_eq_false_iff_not]; omega
  have t3 : decide (z.2 ≤ -4194304) = false := by unfold Pl.inr at h; rw [decide_eq_false_iff_not]; omega
  have t4 : decide (z.2 ≥ 4194304) = false := by unfold Pl.inr at h; rw [decide_eq_false_iff_not]; omega
  go_enter Try.func12, Try.ntmps12
  go_wp2
  go_loopw [4, 5, 6] (fun n b i wr => ∃ k : Nat, k ≤ 40 ∧ n = .int .u64 ((Pl.num k z : Nat) : Int) ∧ b = .int .u64 ((2 ^ k : Nat) : Int) ∧ i = .int .i64 k ∧ wr = w.alloc (spotB (Pl.st k z))) (fun _ _ i _ => 40 - (intOf i).toNat)
  case atStart => exact ⟨0, by omega, rfl, rfl, rfl, rfl⟩
  case round =>
    obtain ⟨k, hk, rfl, rfl, rfl, rfl⟩ := hrel
    clear t1 t2 t3 t4
    have hi := Pl.st_inr k h
    obtain ⟨y, hy⟩ : ∃ y, y = Pl.st k z := ⟨_, rfl⟩
    rw [← hy] at hi ⊢
    have hH : Hid (Pl.st k z = y) := Lib.hid hy.symm
    clear hy
    unfold Pl.inr at hi
    obtain ⟨a, b⟩ := y
    unfold spotB
    simp only [] at hi ⊢
    have hnl := Pl.num_lt k z
    have hpl : 2 ^ k ≤ 2 ^ 40 := Nat.pow_le_pow_right (by omega) hk
    have hpl2 : 2 ^ k ≤ 1099511627776 := hpl
    clear hpl
    have hd := Pl.dig_01 (a, b)
    have e1 : Pl.st (k + 1) z = Pl.nx (a, b) := by show Pl.nx (Pl.st k z) = _; rw [hH.out]
    have e2 : Pl.num (k + 1) z = Pl.num k z + (Pl.dig (a, b)).toNat * 2 ^ k := by show Pl.num k z + (Pl.dig (Pl.st k z)).toNat * 2 ^ k = _; rw [hH.out]
    have e3 : Pl.nx (a, b) = ((b - (a - Pl.dig (a, b))) / 2, (-(a - Pl.dig (a, b)) - b) / 2) := rfl
    have hdd : (a + b) % 2 = Pl.dig (a, b) := rfl
    have hev : (b - (a - Pl.dig (a, b))) % 2 = 0 ∧ (-(a - Pl.dig (a, b)) - b) % 2 = 0 := by omega
    have htm := tmod_two (a + b)
    have e4 : 2 ^ (k + 1) = 2 * 2 ^ k := by rw [Nat.pow_succ, Nat.mul_comm]
    have hf : k = 40 → Pl.backF z = if (a, b) = ((0 : Int), (0 : Int)) then (Pl.num k z, 0) else (0, 6) := by
      intro h40; rw [hB.out, ← h40, hH.out]
    generalize Pl.dig (a, b) = d at *
    generalize Pl.num k z = n at *
    obtain ⟨p, hpp⟩ : ∃ p, p = 2 ^ k := ⟨_, rfl⟩
    rw [← hpp] at e2 e4 hpl2 hnl ⊢
    have E := Lib.hid (And.intro e1 (And.intro e2 (And.intro e3 (And.intro e4 (And.intro (tdiv_even hev.1) (And.intro (tdiv_even hev.2) hf))))))
    clear e1 e2 e3 e4 hev hf hpp
    by_cases hk40 : k = 40
    · have hfin := E.out.2.2.2.2.2.2 hk40
      have hkk : (k : Int) ≥ 40 := by omega
      clear hk40 hdd htm
      by_cases ha : a = 0
      · have ta : (a != 0) = false := by rw [bne_eq_false_iff_eq]; exact ha
        by_cases hb : b = 0
        · have tb : (b != 0) = false := by rw [bne_eq_false_iff_eq]; exact hb
          rw [if_pos (by rw [ha, hb])] at hfin
          have H := Lib.hid hfin
          clear hfin ha hb hd
          go_wp2
          go_ret2
          exact ⟨by rw [H.out]; rfl, (Below.refl _ _).alloc (Nat.le_refl _) _⟩
        · have tb : (b != 0) = true := by rw [bne_iff_ne]; exact hb
          rw [if_neg (by intro hh; injection hh with h1 h2; exact hb h2)] at hfin
          have H := Lib.hid hfin
          clear hfin ha hb hd
          go_wp2
          go_ret2
          exact ⟨by rw [H.out]; rfl, (Below.refl _ _).alloc (Nat.le_refl _) _⟩
      · have ta : (a != 0) = true := by rw [bne_iff_ne]; exact ha
        rw [if_neg (by intro hh; injection hh with h1 h2; exact ha h1)] at hfin
        have H := Lib.hid hfin
        clear hfin ha hd
        go_wp2
        go_ret2
        exact ⟨by rw [H.out]; rfl, (Below.refl _ _).alloc (Nat.le_refl _) _⟩
    · have hkk : (k : Int) < 40 := by omega
      clear hk40
      rcases hd with hd0 | hd1
      · subst hd0
        rw [hdd] at htm
        clear hdd
        go_wp2
        go_roundw
        case rel =>
          refine ⟨k + 1, by omega, ?_, ?_, ?_, ?_⟩
          · rw [E.out.2.1]; simp
          · rw [E.out.2.2.2.1]; first | rfl | (simp; done) | go_num
          · go_num
          · rw [E.out.1, E.out.2.2.1]
            simp only []
            rw [← E.out.2.2.2.2.1, ← E.out.2.2.2.2.2.1, Int.sub_zero]
        case measure => simp [intOf]; omega
      · subst hd1
        rw [hdd] at htm
        clear hdd
        go_wp2
        go_roundw
        case rel =>
          refine ⟨k + 1, by omega, ?_, ?_, ?_, ?_⟩
          · rw [E.out.2.1]; simp
          · rw [E.out.2.2.2.1]; first | rfl | (simp; done) | go_num
          · go_num
          · rw [E.out.1, E.out.2.2.1]
            simp only []
            rw [← E.out.2.2.2.2.1, ← E.out.2.2.2.2.2.1]
        case measure => simp [intOf]; omega
set_option maxHeartbeats 400000 in
theorem rback_no (z : Int × Int) (w : World) (h : ¬ Pl.inr z) :
    Calls Try.prog 12 #[.agg #[.int .i64 z.1, .int .i64 z.2]] w fun e w' => e = .returned (.tuple #[.int .u64 0, .int .i64 5]) ∧ Below w.heap.size w w' := by
  unfold Pl.inr at h
  by_cases h1 : z.1 ≤ -4194304
  · have t1 : decide (z.1 ≤ -4194304) = true := decide_eq_true h1
    clear h h1
    go_enter Try.func12, Try.ntmps12
    go_wp2
    go_ret2
    exact ⟨rfl, (Below.refl _ _).alloc (Nat.le_refl _) _⟩
  · have t1 : decide (z.1 ≤ -4194304) = false := decide_eq_false h1
    by_cases h2 : z.1 ≥ 4194304
    · have t2 : decide (z.1 ≥ 4194304) = true := decide_eq_true h2
      clear h h1 h2
      go_enter Try.func12, Try.ntmps12
      go_wp2
      go_ret2
      exact ⟨rfl, (Below.refl _ _).alloc (Nat.le_refl _) _⟩
    · have t2 : decide (z.1 ≥ 4194304) = false := decide_eq_false h2
      by_cases h3 : z.2 ≤ -4194304
      · have t3 : decide (z.2 ≤ -4194304) = true := decide_eq_true h3
        clear h h1 h2 h3
        go_enter Try.func12, Try.ntmps12
        go_wp2
        go_ret2
        exact ⟨rfl, (Below.refl _ _).alloc (Nat.le_refl _) _⟩
      · have t3 : decide (z.2 ≤ -4194304) = false := decide_eq_false h3
        have t4 : decide (z.2 ≥ 4194304) = true := by rw [decide_eq_true_eq]; omega
        clear h h1 h2 h3
        go_enter Try.func12, Try.ntmps12
        go_wp2
        go_ret2
        exact ⟨rfl, (Below.refl _ _).alloc (Nat.le_refl _) _⟩

theorem rback_any (z : Int × Int) (w : World) :
    Calls Try.prog 12 #[.agg #[.int .i64 z.1, .int .i64 z.2]] w fun e w' => e = .returned (.tuple #[.int .u64 (Pl.backF z).1, .int .i64 (Pl.backF z).2]) ∧ Below w.heap.size w w' := by
  by_cases h : Pl.inr z
  · exact rback_yes z w h
  · have e : Pl.backF z = (0, 5) := by unfold Pl.backF; rw [if_neg h]
    rw [e]
    exact rback_no z w h

/-- turned so often by a quarter -/
def rotN : Nat → Int × Int → Int × Int
  | 0, z => z
  | k + 1, z => (-(rotN k z).2, (rotN k z).1)
theorem rotN_turn (z : Int × Int) (q : Int) : rotN (q % 4).toNat z = Pl.turnF z q := by
  unfold Pl.turnF
  have h : q % 4 = 0 ∨ q % 4 = 1 ∨ q % 4 = 2 ∨ q % 4 = 3 := by omega
  rcases h with h | h | h | h <;> rw [h] <;> simp [rotN]
theorem rotN_sw (k : Nat) {z : Int × Int} (h : Sw z.1 ∧ Sw z.2) : Sw (rotN k z).1 ∧ Sw (rotN k z).2 := by
  induction k with
  | zero => exact h
  | succ k ih =>
    obtain ⟨h1, h2⟩ := ih
    refine ⟨?_, h1⟩
    show Sw (-(rotN k z).2)
    unfold Sw at *
    omega

theorem rturn_loop (z : Int × Int) (q r : Int) (w : World) (hs : Sw z.1 ∧ Sw z.2) (hr : r = q % 4) (hm : (q.tmod 4 < 0 ∧ q.tmod 4 + 4 = r) ∨ (0 ≤ q.tmod 4 ∧ q.tmod 4 = r)) (h0 : 0 ≤ r) (h1 : r ≤ 3) :
    Calls Try.prog 14 #[.agg #[.int .i64 z.1, .int .i64 z.2], .int .i64 q] w fun e w' => e = .returned (.agg #[.int .i64 (Pl.turnF z q).1, .int .i64 (Pl.turnF z q).2]) ∧ Below w.heap.size w w' := by
  have H0 : Hid (rotN r.toNat z = Pl.turnF z q) := Lib.hid (by rw [hr]; exact rotN_turn z q)
  clear hr
  obtain ⟨R, rfl⟩ := Int.eq_ofNat_of_zero_le h0
  rw [Int.toNat_natCast] at H0
  have hR : R ≤ 3 := by omega
  clear h0 h1
  have hm4 : -4 < q.tmod 4 ∧ q.tmod 4 < 4 := ⟨by have := Int.lt_tmod_of_pos q (show (0 : Int) < 4 by omega); omega, Int.tmod_lt_of_pos q (by omega)⟩
  rcases hm with ⟨hn, he⟩ | ⟨hn, he⟩
  all_goals
    go_enter Try.func14, Try.ntmps14
    go_wp2
    go_loopw [6] (fun i wr => ∃ k : Nat, k ≤ R ∧ i = .int .i64 k ∧ wr = (w.alloc (spotB (rotN k z))).alloc (spotB (0, 0))) (fun i _ => R - (intOf i).toNat)
    case atStart => exact ⟨0, by omega, rfl, rfl⟩
    case round =>
      obtain ⟨k, hk, rfl, rfl⟩ := hrel
      have hss := rotN_sw k hs
      have hnx : rotN (k + 1) z = (-(rotN k z).2, (rotN k z).1) := rfl
      have hend : k = R → rotN k z = Pl.turnF z q := fun h => by rw [h]; exact H0.out
      have E := Lib.hid (And.intro hnx hend)
      clear hnx hend
      generalize rotN k z = y at *
      obtain ⟨a, b⟩ := y
      unfold spotB
      simp only [] at hss ⊢
      have hb2 : -8796093022208 < b ∧ b < 8796093022208 := by have := hss.2; unfold Sw at this; omega
      by_cases hkR : k < R
      · go_wp2
        go_roundw
        case rel =>
          refine ⟨k + 1, by omega, by go_num, ?_⟩
          rw [E.out.1]
        case measure => simp [intOf]; omega
      · have hv := E.out.2 (by omega)
        have H3 := Lib.hid hv
        clear hv
        go_wp2
        refine bodyPost_ret (v := .agg #[.int .i64 a, .int .i64 b]) (by simp [results, Try.results14, go_sem]) rfl ⟨by rw [← H3.out], ?_⟩
        exact ((Below.refl _ _).alloc (Nat.le_refl _) _).alloc (by simp) _

theorem rturn_any (z : Int × Int) (q : Int) (w : World) (hs : Sw z.1 ∧ Sw z.2) :
    Calls Try.prog 14 #[.agg #[.int .i64 z.1, .int .i64 z.2], .int .i64 q] w fun e w' => e = .returned (.agg #[.int .i64 (Pl.turnF z q).1, .int .i64 (Pl.turnF z q).2]) ∧ Below w.heap.size w w' := by
  refine rturn_loop z q (q % 4) w hs rfl ?_ (by omega) (by omega)
  rcases Int.lt_or_le q 0 with h | h
  · have e : q.tmod 4 = -((-q).tmod 4) := by rw [Int.neg_tmod, Int.neg_neg]
    have e2 : (-q).tmod 4 = (-q) % 4 := Int.tmod_eq_emod_of_nonneg (by omega)
    omega
  · have e : q.tmod 4 = q % 4 := Int.tmod_eq_emod_of_nonneg h
    omega
end Go.Proofs.Ytedbbbbjajafgaa
