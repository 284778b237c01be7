/- What plane.Of and plane.Turn answer, and their twins in the reference. -/
import Derived.Test.YtedbbbbjajafgaaPlaneA
import Derived.Test.YtedbbbbjajafgaaPlaneM
namespace Go.Proofs.Ytedbbbbjajafgaa
open Go.RowKit Go.Proofs Fl
set_option linter.unusedVariables false
set_option linter.unusedSimpArgs false

/-- the word of a whole number -/
def fl (a : Int) : Nat := fz false (256 * a)
/-- no greater than what the words bear -/
def Sw (a : Int) : Prop := a.natAbs < 2 ^ 43
theorem Sw.of {m : Int} (h : -8796093022208 < m) (h' : m < 8796093022208) : Sw m := by unfold Sw; omega
theorem Sw.sm {a : Int} (h : Sw a) : Sm (256 * a) := by unfold Sw Sm at *; omega
theorem Sw.smn {a : Int} (h : Sw a) : Sm (-(256 * a)) := by unfold Sw Sm at *; omega

theorem fz_any {s t : Bool} {m : Int} (h : m ≠ 0) : fz s m = fz t m := by unfold fz sg; rw [if_neg h, if_neg h]

/-- its negative's word: of nought the negative nought's -/
def nfl (a : Int) : Nat := fz true (-(256 * a))
theorem neg_fl {a : Int} (h : Sw a) : Op.negFloat .f64 (fl a) = nfl a := neg_fz false (256 * a) (by unfold Sw at h; omega)

section
variable {P : Program} (w : World)
theorem run_cadd (T : TypeId) {a b c d : Int} (ha : Sw a) (hb : Sw b) (hc : Sw c) (hd : Sw d) :
    (binOp .add T (.complex .f64 (fl a) (fl b)) (.complex .f64 (fl c) (fl d))).run P w = .ok (.complex .f64 (fl (a + c)) (fl (b + d))) w := by
  refine run_complex_sum w .add (.inl rfl) T .f64 _ _ _ _ _ _ ?_
  have h1 : floatBits .add .f64 (fl a) (fl c) = some (fl (a + c)) := by
    have h := add_fz false false (256 * a) (256 * c) ha.sm hc.sm
    have e : fz (sg false (256 * a) && sg false (256 * c)) (256 * a + 256 * c) = fl (a + c) := by
      unfold fl
      rw [Int.mul_add]
      by_cases h0 : 256 * a + 256 * c = 0
      · by_cases ha0 : a = 0
        · subst ha0; rfl
        · by_cases hl : a < 0
          · rw [sg_of_pos (m := 256 * c) (by omega), Bool.and_false]
          · rw [sg_of_pos (m := 256 * a) (by omega), Bool.false_and]
      · exact fz_any h0
    rw [e] at h; exact h
  have h2 : floatBits .add .f64 (fl b) (fl d) = some (fl (b + d)) := by
    have h := add_fz false false (256 * b) (256 * d) hb.sm hd.sm
    have e : fz (sg false (256 * b) && sg false (256 * d)) (256 * b + 256 * d) = fl (b + d) := by
      unfold fl
      rw [Int.mul_add]
      by_cases h0 : 256 * b + 256 * d = 0
      · by_cases ha0 : b = 0
        · subst ha0; rfl
        · by_cases hl : b < 0
          · rw [sg_of_pos (m := 256 * d) (by omega), Bool.and_false]
          · rw [sg_of_pos (m := 256 * b) (by omega), Bool.false_and]
      · exact fz_any h0
    rw [e] at h; exact h
  unfold cSumBits
  rw [h1, h2]
  rfl
theorem run_sub_fl (T : TypeId) {a b : Int} (ha : Sw a) (hb : Sw b) : (binOp .sub T (.float .f64 (fl a)) (.float .f64 (fl b))).run P w = .ok (.float .f64 (fl (a - b))) w := by
  have h := run_sub_fz (P := P) w T (s := false) (t := false) ha.sm hb.sm
  have e : fz (sg false (256 * a) && !sg false (256 * b)) (256 * a - 256 * b) = fl (a - b) := by
    unfold fl
    rw [Int.mul_sub]
    by_cases h0 : 256 * a - 256 * b = 0
    · obtain rfl : a = b := by omega
      rw [Bool.and_not_self]
    · exact fz_any h0
  rw [e] at h; exact h
theorem run_nsub_fl (T : TypeId) {a b : Int} (ha : Sw a) (hb : Sw b) (h0 : ¬ (a = 0 ∧ b = 0)) : (binOp .sub T (.float .f64 (Op.negFloat .f64 (fl a))) (.float .f64 (fl b))).run P w = .ok (.float .f64 (fl (-a - b))) w := by
  rw [neg_fl ha]
  unfold nfl
  have h := run_sub_fz (P := P) w T (s := true) (t := false) ha.smn hb.sm
  have e : fz (sg true (-(256 * a)) && !sg false (256 * b)) (-(256 * a) - 256 * b) = fl (-a - b) := by
    unfold fl
    rw [show 256 * (-a - b) = -(256 * a) - 256 * b from by omega]
    by_cases h1 : -(256 * a) - 256 * b = 0
    · by_cases hl : a < 0
      · rw [sg_of_pos (m := -(256 * a)) (by omega), Bool.false_and]
      · rw [sg_of_neg (m := 256 * b) (by omega), Bool.not_true, Bool.and_false]
    · exact fz_any h1
  rw [e] at h; exact h
end

theorem plain_fl (a b : Int) (w : World) (ha : Sw a) (hb : Sw b) :
    Calls Try.prog 22 #[.complex .f64 (fl a) (fl b)] w fun e w' => e = .returned (.complex .f64 (fl a) (fl b)) ∧ w = w' :=
  plain_any false false _ _ w ha.sm hb.sm

theorem pw_ne : ∀ k : Fin 41, ¬ ((Pl.pw k.val).1 = 0 ∧ (Pl.pw k.val).2 = 0) := by decide +kernel
theorem pw_sw {k : Nat} (h : k ≤ 40) : Sw (Pl.pw k).1 ∧ Sw (Pl.pw k).2 := by
  have := Pl.pw_le ⟨k, by omega⟩
  simp only [] at this
  exact ⟨by unfold Sw; omega, by unfold Sw; omega⟩
theorem zz_sw {n k : Nat} (h : k ≤ 40) : Sw (Pl.zz n k).1 ∧ Sw (Pl.zz n k).2 := by
  have := Pl.V_le n k h
  rw [← Pl.zz_eq] at this
  exact ⟨by unfold Sw; omega, by unfold Sw; omega⟩

theorem fl_nought : fl 0 = 0 := fz_nought
theorem fl_one : fl 1 = 4607182418800017408 := fz_one

set_option maxHeartbeats 400000 in
theorem of_small (n : Nat) (w : World) (hn : n < 1099511627776) :
    Calls Try.prog 16 #[.int .u64 n] w fun e w' => e = .returned (.tuple #[.complex .f64 (fl (Pl.V n 40).1) (fl (Pl.V n 40).2), .int .i64 0]) ∧ w = w' := by
  have hc0 : ((n : Int) / 1099511627776 != 0) = false := by rw [bne_eq_false_iff_eq]; omega
  go_enter Try.func16, Try.ntmps16
  go_wp2
  go_loop [0, 4, 5] (fun x z p => ∃ k : Nat, k ≤ 40 ∧ x = .int .u64 ((n / 2 ^ k : Nat) : Int) ∧ z = .complex .f64 (fl (Pl.zz n k).1) (fl (Pl.zz n k).2) ∧ p = .complex .f64 (fl (Pl.pw k).1) (fl (Pl.pw k).2)) (fun x _ _ => (intOf x).toNat)
  case atStart =>
    refine ⟨0, by omega, by simp, ?_, ?_⟩
    · show Value.complex .f64 0 0 = .complex .f64 (fl 0) (fl 0); rw [fl_nought]
    · show Value.complex .f64 4607182418800017408 0 = .complex .f64 (fl 1) (fl 0); rw [fl_nought, fl_one]
  case round =>
    obtain ⟨k, hk, rfl, rfl, rfl⟩ := hrel
    obtain ⟨x, hx⟩ : ∃ x, x = n / 2 ^ k := ⟨_, rfl⟩
    have hxl : x ≤ n := by rw [hx]; exact Nat.div_le_self _ _
    have hs := @zz_sw n k hk
    have hp := @pw_sw k hk
    rw [← hx]
    by_cases hz : x = 0
    · have hend : Pl.zz n k = Pl.V n 40 := by
        rw [← Pl.zz_eq]; exact (Pl.zz_stop n k (by omega) 40 hk).symm
      have hv := @zz_sw n 40 (by omega)
      rw [Pl.zz_eq] at hv
      rw [hend]
      have hb : ((x : Int) != 0) = false := by rw [bne_eq_false_iff_eq]; omega
      clear hx hend hz
      go_wp2_with (fail)
      refine (plain_fl _ _ _ hv.1 hv.2).mono ?_
      rintro e w' ⟨rfl, rfl⟩
      go_wp2
      go_ret2
      exact ⟨rfl, rfl⟩
    · have hb : ((x : Int) != 0) = true := by rw [bne_iff_ne]; omega
      have hpn := pw_ne ⟨k, by omega⟩
      have hand := and_one_u64 (x : Int) (by omega) (by omega)
      have n1 : ∀ w, (Op.unary .neg (.float .f64 (fl (Pl.pw k).1))).run Try.prog w = .ok (.float .f64 (Op.negFloat .f64 (fl (Pl.pw k).1))) w := fun _ => rfl
      have s1 := fun w => run_nsub_fl (P := Try.prog) w 40 hp.1 hp.2 hpn
      have s2 := fun w => run_sub_fl (P := Try.prog) w 40 hp.1 hp.2
      have a1 := fun w => run_cadd (P := Try.prog) w 29 hs.1 hs.2 hp.1 hp.2
      simp only [] at hpn
      have hx2 : n / 2 ^ (k + 1) = x / 2 := by rw [hx, Nat.div_div_eq_div_mul, Nat.pow_succ]
      have hk40 : k < 40 := by
        rcases Nat.lt_or_ge k 40 with h | h
        · exact h
        · obtain rfl : k = 40 := by omega
          have : n / 2 ^ 40 = 0 := Nat.div_eq_of_lt hn
          omega
      have hpw : Pl.pw (k + 1) = (-(Pl.pw k).1 - (Pl.pw k).2, (Pl.pw k).1 - (Pl.pw k).2) := rfl
      have hzz : Pl.zz n (k + 1) = if n / 2 ^ k % 2 = 1 then ((Pl.zz n k).1 + (Pl.pw k).1, (Pl.zz n k).2 + (Pl.pw k).2) else Pl.zz n k := rfl
      rw [← hx] at hzz
      have H := Lib.hid hx2
      have H1 := Lib.hid hpw
      have e2 : ((x / 2 : Nat) : Int) = (x : Int) / 2 := by omega
      by_cases hd : x % 2 = 1
      · have hd' : ((x : Int) % 2 != 0) = true := by rw [bne_iff_ne]; omega
        rw [if_pos hd] at hzz
        have H2 := Lib.hid hzz
        have H3 := Lib.hid e2
        clear hx2 hpw hzz hx hd hpn e2
        go_wp2
        go_round
        case rel =>
          refine ⟨k + 1, by omega, ?_, ?_, ?_⟩
          · rw [H.out, H3.out]
          · rw [H2.out]
          · rw [H1.out]
        case measure => simp [intOf]; omega
      · have hd' : ((x : Int) % 2 != 0) = false := by rw [bne_eq_false_iff_eq]; omega
        rw [if_neg hd] at hzz
        have H2 := Lib.hid hzz
        have H3 := Lib.hid e2
        clear hx2 hpw hzz hx hd hpn e2
        go_wp2
        go_round
        case rel =>
          refine ⟨k + 1, by omega, ?_, ?_, ?_⟩
          · rw [H.out, H3.out]
          · rw [H2.out]
          · rw [H1.out]
        case measure => simp [intOf]; omega

set_option maxHeartbeats 400000 in
theorem of_big (n : Int) (w : World) (hn : 1099511627776 ≤ n) :
    Calls Try.prog 16 #[.int .u64 n] w fun e w' => e = .returned (.tuple #[.complex .f64 (fl 0) (fl 0), .int .i64 3]) ∧ w = w' := by
  have hc0 : (n / 1099511627776 != 0) = true := by rw [bne_iff_ne]; omega
  rw [fl_nought]
  go_enter Try.func16, Try.ntmps16
  go_wp2
  go_ret2
  exact ⟨rfl, rfl⟩

theorem of_any (n : Nat) (w : World) :
    Calls Try.prog 16 #[.int .u64 n] w fun e w' => e = .returned (.tuple #[.complex .f64 (fl (Pl.ofF n).1.1) (fl (Pl.ofF n).1.2), .int .i64 (Pl.ofF n).2]) ∧ w = w' := by
  unfold Pl.ofF
  by_cases h : n < 1099511627776
  · rw [if_pos h]; exact of_small n w h
  · rw [if_neg h]; exact of_big n w (by omega)

/-! ### Turn -/
theorem turn_go (q : Int) (h0 : -9223372036854775808 ≤ q) (h1 : q ≤ 9223372036854775807) : (q.tmod 4 + 4).tmod 4 = q % 4 := by
  rw [Int.tmod_eq_emod_of_nonneg (by have := Int.lt_tmod_of_pos q (show (0 : Int) < 4 by omega); omega)]
  rcases Int.lt_or_le q 0 with h | h
  · have e : q.tmod 4 = -((-q).tmod 4) := by rw [Int.neg_tmod, Int.neg_neg]
    rw [e, Int.tmod_eq_emod_of_nonneg (by omega)]; omega
  · rw [Int.tmod_eq_emod_of_nonneg h]; omega

set_option maxHeartbeats 400000 in
theorem turn_any (a b q : Int) (w : World) (ha : Sw a) (hb : Sw b) (h0 : -9223372036854775808 ≤ q) (h1 : q ≤ 9223372036854775807) :
    Calls Try.prog 13 #[.complex .f64 (fl a) (fl b), .int .i64 q] w fun e w' => e = .returned (.complex .f64 (fl (Pl.turnF (a, b) q).1) (fl (Pl.turnF (a, b) q).2)) ∧ w = w' := by
  have n1 : ∀ x w, (Op.unary .neg (.float .f64 x)).run Try.prog w = .ok (.float .f64 (Op.negFloat .f64 x)) w := fun _ _ => rfl
  have hq := turn_go q h0 h1
  have hq0 : 0 ≤ q % 4 := by omega
  have hq1 : q % 4 ≤ 3 := by omega
  have hm : -4 < q.tmod 4 ∧ q.tmod 4 < 4 := ⟨by have := Int.lt_tmod_of_pos q (show (0 : Int) < 4 by omega); omega, Int.tmod_lt_of_pos q (by omega)⟩
  unfold Pl.turnF
  generalize q % 4 = r at *
  have hr : r = 0 ∨ r = 1 ∨ r = 2 ∨ r = 3 := by omega
  have e1 : ∀ x : Int, fz false (-(256 * x)) = fl (-x) := fun x => by unfold fl; rw [Int.mul_neg]
  rcases hr with rfl | rfl | rfl | rfl
  · rw [if_neg (by decide), if_neg (by decide), if_neg (by decide)]
    go_enter Try.func13, Try.ntmps13
    go_wp2_with (fail)
    refine (plain_fl a b _ ha hb).mono ?_
    rintro e w' ⟨rfl, rfl⟩
    go_wp2
    go_ret
    exact ⟨rfl, rfl⟩
  · rw [if_pos rfl]
    go_enter Try.func13, Try.ntmps13
    go_wp2_with (fail)
    rw [neg_fl hb]
    refine (plain_any true false (-(256 * b)) (256 * a) _ hb.smn ha.sm).mono ?_
    rintro e w' ⟨rfl, rfl⟩
    rw [e1]
    go_wp2
    go_ret
    exact ⟨rfl, rfl⟩
  · rw [if_neg (by decide), if_pos rfl]
    go_enter Try.func13, Try.ntmps13
    go_wp2_with (fail)
    rw [neg_fl hb, neg_fl ha]
    refine (plain_any true true (-(256 * a)) (-(256 * b)) _ ha.smn hb.smn).mono ?_
    rintro e w' ⟨rfl, rfl⟩
    rw [e1, e1]
    go_wp2
    go_ret
    exact ⟨rfl, rfl⟩
  · rw [if_neg (by decide), if_neg (by decide), if_pos rfl]
    go_enter Try.func13, Try.ntmps13
    go_wp2_with (fail)
    rw [neg_fl ha]
    refine (plain_any false true (256 * b) (-(256 * a)) _ hb.sm ha.smn).mono ?_
    rintro e w' ⟨rfl, rfl⟩
    rw [e1]
    go_wp2
    go_ret
    exact ⟨rfl, rfl⟩
end Go.Proofs.Ytedbbbbjajafgaa
