/- What plane.Back and its twin in the reference answer. -/
import Derived.Test.YtedbbbbjajafgaaPlaneB
namespace Go.Proofs.Ytedbbbbjajafgaa
open Go.RowKit Go.Proofs Fl
set_option linter.unusedVariables false
set_option linter.unusedSimpArgs false

theorem and_one_i64 (x : Int) : bits BinOp.and IntKind.i64 x 1 = x % 2 := by
  have h1 : (BitVec.ofInt 64 x).toNat = (x % 18446744073709551616).toNat := by rw [BitVec.toNat_ofInt]; rfl
  have h2 : (BitVec.ofInt 64 (1 : Int)).toNat = 1 := by decide
  show IntKind.i64.wrap ((BitVec.ofInt 64 x &&& BitVec.ofInt 64 1).toNat : Int) = _
  rw [BitVec.toNat_and, h1, h2, Nat.and_one_is_mod, IntKind.wrap_i64]
  omega

theorem or_low (n k d : Nat) (hn : n < 2 ^ k) (hk : k < 64) (hd : d = 0 ∨ d = 1) : bits BinOp.or IntKind.u64 (n : Int) ((d * 2 ^ k : Nat) : Int) = ((n + d * 2 ^ k : Nat) : Int) := by
  have hp : 2 ^ k < 2 ^ 64 := Nat.pow_lt_pow_right (by omega) hk
  have hdl : d * 2 ^ k ≤ 2 ^ k := by rcases hd with rfl | rfl <;> omega
  rw [bits_or_u64_nat n (d * 2 ^ k) (by omega) (by omega)]
  congr 1
  rcases hd with rfl | rfl
  · simp
  · have h := Nat.two_pow_add_eq_or_of_lt hn 1
    rw [Nat.mul_one] at h
    rw [Nat.one_mul, Nat.or_comm, ← h, Nat.add_comm]

theorem tdiv_even {x : Int} (h : x % 2 = 0) : x.tdiv 2 = x / 2 := Int.tdiv_eq_ediv_of_dvd (Int.dvd_of_emod_eq_zero h)

theorem wrap_low (d : Int) (j : Nat) (hd : d = 0 ∨ d = 1) (hj : j < 64) : IntKind.u64.wrap (d * 2 ^ j) = ((d.toNat * 2 ^ j : Nat) : Int) := by
  have hp : 2 ^ j < 2 ^ 64 := Nat.pow_lt_pow_right (by omega) hj
  rw [IntKind.wrap_u64]
  rcases hd with rfl | rfl
  · simp
  · rw [Int.one_mul]
    have e : ((2 : Int) ^ j) = ((2 ^ j : Nat) : Int) := by rw [Int.natCast_pow]; rfl
    rw [e, show (1 : Int).toNat = 1 from rfl, Nat.one_mul]
    have hp2 : 2 ^ j < 18446744073709551616 := hp
    generalize 2 ^ j = q at *
    omega

theorem wholeB_int (a : Int) : wholeB (256 * a) = (decide (-4194304 < a) && decide (a < 4194304)) := by
  unfold wholeB
  have e : (256 * a).tdiv 256 = a := by rw [Int.mul_comm]; exact Int.mul_tdiv_cancel _ (by omega)
  rw [e, decide_eq_true (rfl : 256 * a = 256 * a), Bool.true_and]
  congr 1
  · exact decide_eq_decide.2 (by omega)
  · exact decide_eq_decide.2 (by omega)

theorem conv_fl (w : World) {a : Int} (ha : Sw a) : (convert 40 2 (.float .f64 (fl a))).run Try.prog w = .ok (.int .i64 a) w := by
  refine run_convert_float_int w _ _ .f64 .i64 _ a (by kernel_rfl) Try.underlying2 ?_
  unfold floatToIntVal
  have h : (FloatKind.f64.decode (fl a)).toInt .zero = some a := toInt_fz false a (by unfold Sw at ha; omega)
  rw [h]
  have : IntKind.i64.min ≤ a ∧ a ≤ IntKind.i64.max := by
    unfold Sw at ha
    show (-9223372036854775808 : Int) ≤ a ∧ a ≤ 9223372036854775807
    omega
  simp only []
  rw [if_pos this]

theorem sw_of_inr {z : Int × Int} (h : Pl.inr z) : Sw z.1 ∧ Sw z.2 := by
  unfold Pl.inr at h
  exact ⟨by unfold Sw; omega, by unfold Sw; omega⟩

set_option maxHeartbeats 400000 in
theorem back_yes (z : Int × Int) (w : World) (h : Pl.inr z) :
    Calls Try.prog 10 #[.complex .f64 (fl z.1) (fl z.2)] w fun e w' => e = .returned (.tuple #[.int .u64 (Pl.backF z).1, .int .i64 (Pl.backF z).2]) ∧ w = w' := by
  have hs := sw_of_inr h
  have c1 := fun w => conv_fl w hs.1
  have c2 := fun w => conv_fl w hs.2
  have w1 := wholeB_int z.1
  have w2 := wholeB_int z.2
  have hr : wholeB (256 * z.1) = true ∧ wholeB (256 * z.2) = true := by
    unfold Pl.inr at h
    rw [w1, w2]; simp; omega
  have hB : Hid (Pl.backF z = if Pl.st 40 z = (0, 0) then (Pl.num 40 z, 0) else (0, 6)) := Lib.hid (by unfold Pl.backF; rw [if_pos h])
  clear w1 w2
  go_enter Try.func10, Try.ntmps10
  go_wp2_with (fail)
  refine (whole_any (256 * z.1) _ hs.1.sm).mono ?_
  rintro e w' ⟨rfl, rfl⟩
  rw [hr.1]
  go_wp2_with (fail)
  refine (whole_any (256 * z.2) _ hs.2.sm).mono ?_
  rintro e w' ⟨rfl, rfl⟩
  rw [hr.2]
  go_wp2_with (fail)
  go_loop [4, 5, 6, 7] (fun a b n k => ∃ j : Nat, j ≤ 40 ∧ a = .int .i64 (Pl.st j z).1 ∧ b = .int .i64 (Pl.st j z).2 ∧ n = .int .u64 (Pl.num j z) ∧ k = .int .i64 j) (fun _ _ _ k => 40 - (intOf k).toNat)
  case atStart => exact ⟨0, by omega, rfl, rfl, rfl, rfl⟩
  case round =>
    obtain ⟨j, hj, rfl, rfl, rfl, rfl⟩ := hrel
    have hi := Pl.st_inr j h
    obtain ⟨y, hy⟩ : ∃ y, y = Pl.st j z := ⟨_, rfl⟩
    rw [← hy] at hi ⊢
    unfold Pl.inr at hi
    by_cases hz : y = (0, 0)
    · obtain ⟨q1, q2⟩ := Pl.st_zero j 40 z (hy ▸ hz) hj
      have hfin : Pl.backF z = (Pl.num j z, 0) := by rw [hB.out, if_pos q1, q2]
      have H := Lib.hid hfin
      subst hz
      clear hy q1 q2 hfin
      go_wp2
      go_ret2
      rw [H.out]
      exact ⟨rfl, rfl⟩
    · have hH : Hid (Pl.st j z = y) := Lib.hid hy.symm
      obtain ⟨a, b⟩ := y
      simp only [] at hi
      have hne : ¬ (a = 0 ∧ b = 0) := fun h => hz (by rw [h.1, h.2])
      clear hz hy
      by_cases hj40 : j = 40
      · have hfin : Pl.backF z = (0, 6) := by
          rw [hB.out, if_neg]
          rw [← hj40, hH.out]
          intro hh; injection hh with h1 h2; exact hne ⟨h1, h2⟩
        have H := Lib.hid hfin
        clear hfin
        have t3 : (j : Int) ≥ 40 := by omega
        by_cases ha : a = 0
        · have t1 : (a != 0) = false := by rw [bne_eq_false_iff_eq]; exact ha
          have t2 : (b != 0) = true := by rw [bne_iff_ne]; exact fun hb => hne ⟨ha, hb⟩
          clear ha hne hj40
          go_wp2
          go_ret2
          rw [H.out]
          exact ⟨rfl, rfl⟩
        · have t1 : (a != 0) = true := by rw [bne_iff_ne]; exact ha
          clear ha hne hj40
          go_wp2
          go_ret2
          rw [H.out]
          exact ⟨rfl, rfl⟩
      · have hjl : (j : Int) < 40 := by omega
        have hd := Pl.dig_01 (a, b)
        have e1 : Pl.st (j + 1) z = Pl.nx (a, b) := by show Pl.nx (Pl.st j z) = _; rw [hH.out]
        have e2 : Pl.num (j + 1) z = Pl.num j z + (Pl.dig (a, b)).toNat * 2 ^ j := by show Pl.num j z + (Pl.dig (Pl.st j z)).toNat * 2 ^ j = _; rw [hH.out]
        have e3 : Pl.nx (a, b) = ((b - (a - Pl.dig (a, b))) / 2, (-(a - Pl.dig (a, b)) - b) / 2) := rfl
        have hdd : (a + b) % 2 = Pl.dig (a, b) := rfl
        have hnl := Pl.num_lt j z
        have hand := and_one_i64 (a + b)
        rw [hdd] at hand
        have hev : (b - (a - Pl.dig (a, b))) % 2 = 0 ∧ (-(a - Pl.dig (a, b)) - b) % 2 = 0 := by omega
        have hor := or_low (Pl.num j z) j (Pl.dig (a, b)).toNat hnl (by omega) (by omega)
        generalize Pl.dig (a, b) = d at *
        generalize Pl.num j z = n at *
        have E := Lib.hid (And.intro e1 (And.intro e2 e3))
        clear e1 e2 e3 hdd
        have hwl := wrap_low d j hd (by omega)
        have E2 := Lib.hid (And.intro (tdiv_even hev.1) (And.intro (tdiv_even hev.2) (And.intro hwl hor)))
        clear hwl hor hev
        by_cases ha : a = 0
        · have t1 : (a != 0) = false := by rw [bne_eq_false_iff_eq]; exact ha
          have t2 : (b != 0) = true := by rw [bne_iff_ne]; exact fun hb => hne ⟨ha, hb⟩
          clear ha hne hj40
          go_wp2
          go_round
          case rel =>
            refine ⟨j + 1, by omega, ?_, ?_, ?_, ?_⟩
            · rw [E.out.1, E.out.2.2]; exact congrArg _ E2.out.1
            · rw [E.out.1, E.out.2.2]; exact congrArg _ E2.out.2.1
            · rw [E.out.2.1, E2.out.2.2.1]; exact congrArg _ E2.out.2.2.2
            · go_num
          case measure => simp [intOf]; omega
        · have t1 : (a != 0) = true := by rw [bne_iff_ne]; exact ha
          clear ha hne hj40
          go_wp2
          go_round
          case rel =>
            refine ⟨j + 1, by omega, ?_, ?_, ?_, ?_⟩
            · rw [E.out.1, E.out.2.2]; exact congrArg _ E2.out.1
            · rw [E.out.1, E.out.2.2]; exact congrArg _ E2.out.2.1
            · rw [E.out.2.1, E2.out.2.2.1]; exact congrArg _ E2.out.2.2.2
            · go_num
          case measure => simp [intOf]; omega

set_option maxHeartbeats 400000 in
theorem back_no (x y : Int) (w : World) (hx : Sm x) (hy : Sm y) (h : (wholeB x && wholeB y) = false) :
    Calls Try.prog 10 #[.complex .f64 (fz false x) (fz false y)] w fun e w' => e = .returned (.tuple #[.int .u64 0, .int .i64 5]) ∧ w = w' := by
  go_enter Try.func10, Try.ntmps10
  go_wp2_with (fail)
  refine (whole_any x _ hx).mono ?_
  rintro e w' ⟨rfl, rfl⟩
  cases h1 : wholeB x with
  | false =>
    go_wp2
    go_ret2
    exact ⟨rfl, rfl⟩
  | true =>
    rw [h1, Bool.true_and] at h
    go_wp2_with (fail)
    refine (whole_any y _ hy).mono ?_
    rintro e w' ⟨rfl, rfl⟩
    rw [h]
    go_wp2
    go_ret2
    exact ⟨rfl, rfl⟩

theorem back_any (z : Int × Int) (w : World) (hs : Sw z.1 ∧ Sw z.2) :
    Calls Try.prog 10 #[.complex .f64 (fl z.1) (fl z.2)] w fun e w' => e = .returned (.tuple #[.int .u64 (Pl.backF z).1, .int .i64 (Pl.backF z).2]) ∧ w = w' := by
  by_cases h : Pl.inr z
  · exact back_yes z w h
  · have e : Pl.backF z = (0, 5) := by unfold Pl.backF; rw [if_neg h]
    rw [e]
    refine back_no (256 * z.1) (256 * z.2) w hs.1.sm hs.2.sm ?_
    rw [wholeB_int, wholeB_int]
    unfold Pl.inr at h
    simp
    omega
end Go.Proofs.Ytedbbbbjajafgaa
