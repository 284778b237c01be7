/- What Get answers, in the program and in the reference. -/
import Derived.Test.YtejablcdpakgoaaEndsB
import Derived.Laws.Bits64b
namespace Go.Proofs.Ytejablcdpakgoaa
open Go.RowKit Go.Proofs En
set_option linter.unusedVariables false
set_option linter.unusedSimpArgs false

theorem take_snoc (p : List Int) (j : Nat) (h : j < p.length) : p.take (j + 1) = p.take j ++ [p.getD j 0] := by
  have := take_drop_snoc p 0 j (by omega)
  simpa using this
theorem val_take (p : List Int) (j : Nat) (h : j < p.length) : valF (p.take (j + 1)) = valF (p.take j) + p.getD j 0 * 2 ^ (8 * j) := by
  rw [take_snoc p j h, valF_snoc, List.length_take, Nat.min_eq_left (by omega), pow_shift]
theorem or_add (a x : Int) (j : Nat) (ha : 0 ≤ a ∧ a < 2 ^ (8 * j)) (hx : 0 ≤ x ∧ x ≤ 255) (hj : j ≤ 7) : bits .or .u64 a (IntKind.u64.wrap (x * 2 ^ (8 * j))) = a + x * 2 ^ (8 * j) := by
  obtain ⟨a, rfl⟩ := Int.eq_ofNat_of_zero_le ha.1
  obtain ⟨x, rfl⟩ := Int.eq_ofNat_of_zero_le hx.1
  have h1 : a < 2 ^ (8 * j) := by
    have := ha.2
    rw [show ((2 : Int) ^ (8 * j)) = ((2 ^ (8 * j) : Nat) : Int) from by simp] at this
    omega
  have h2 : 2 ^ (8 * j) ≤ 2 ^ 56 := Nat.pow_le_pow_right (by omega) (by omega)
  have h3 : x * 2 ^ (8 * j) ≤ 255 * 2 ^ 56 := Nat.mul_le_mul (by omega) h2
  have e : ((x : Int) * 2 ^ (8 * j)) = ((x <<< (8 * j) : Nat) : Int) := by rw [Nat.shiftLeft_eq]; simp
  have h4 : x <<< (8 * j) < 18446744073709551616 := by rw [Nat.shiftLeft_eq]; omega
  rw [e, IntKind.wrap_u64, Int.emod_eq_of_lt (by omega) (by omega), bits_or_u64_nat _ _ (by omega) h4, Nat.or_comm, ← Nat.shiftLeft_add_eq_or_of_lt h1]
  simp [Nat.add_comm]

set_option maxHeartbeats 400000 in
theorem get_any (A : Option Addr) (n c : Nat) (b : List Int) (at_ k : Int) (w : World) (hb : Arg w A n c b) (ha : -9223372036854775808 ≤ at_ ∧ at_ ≤ 9223372036854775807) (hk : -9223372036854775808 ≤ k ∧ k ≤ 9223372036854775807) :
    Calls Try.prog 36 #[.slice A n c, .int .i64 at_, .int .i64 k] w fun e w' => e = .returned (.tuple #[.int .u64 (getF b at_ k).1, .int .i64 (getF b at_ k).2]) ∧ Below w.heap.size w w' := by
  cases hs : szB k with
  | false =>
    have hp : getF b at_ k = (0, 2) := by unfold getF; rw [hs]; exact if_neg (by simp)
    have H := Lib.hid hp
    have S := Lib.hid hs
    clear hp hs
    go_enter Try.func36, Try.ntmps36
    go_wp2_with (fail)
    refine (size_any _ _).mono ?_
    rintro e w' ⟨rfl, rfl⟩
    rw [S.out]
    go_wp2_with (fail)
    go_ret2
    rw [H.out]
    exact ⟨rfl, Below.refl _ _⟩
  | true =>
    have C := Lib.hid (part_any A n c b at_ k w hb ha hk)
    have S := Lib.hid hs
    by_cases he : (partF b at_ k).2 = 0
    · have hp : getF b at_ k = (valF (partF b at_ k).1, 0) := by unfold getF; rw [if_pos hs, if_pos he]
      have hl := partF_length he
      have hB := partF_isB hb.isB at_ k
      rw [hp]
      have h8 : (partF b at_ k).1.length ≤ 8 := by have := szB_or hs; omega
      have E := Lib.hid he
      clear hp hs he hl hb
      generalize (partF b at_ k).2 = q at *
      generalize (partF b at_ k).1 = p at *
      go_enter Try.func36, Try.ntmps36
      go_wp2_with (fail)
      refine (size_any _ _).mono ?_
      rintro e w' ⟨rfl, rfl⟩
      rw [S.out]
      go_wp2_with (fail)
      refine C.out.mono ?_
      rintro e w' ⟨A', c', rfl, ho, hbel⟩
      rw [E.out]
      clear C E S
      have hrd := ho.rd
      have hz := hbel.size
      go_wp2_with (fail)
      go_loop [10, 28] (fun v i => ∃ j : Nat, j ≤ p.length ∧ i = .int .i64 j ∧ v = .int .u64 (valF (p.take j))) (fun _ i => p.length - (intOf i).toNat)
      case atStart => exact ⟨0, by omega, rfl, rfl⟩
      case round =>
        obtain ⟨j, hj, rfl, rfl⟩ := hrel
        by_cases hlt : j < p.length
        · obtain ⟨ad, rfl, hbk, hc0⟩ := hrd.at_ hlt
          have hg := hB.getD j
          have hv := valF_bound (p.take j) (hB.take j)
          rw [List.length_take, Nat.min_eq_left hj, ← pow_shift] at hv
          have hv1 := valF_bound (p.take (j + 1)) (hB.take _)
          have hvt := val_take p j hlt
          have hor := or_add _ (p.getD j 0) j hv hg (by omega)
          generalize p.getD j 0 = x at *
          go_wp2_with (fail)
          go_round
          case rel => refine ⟨j + 1, by omega, by go_num, ?_⟩; rw [hvt]
          case measure => simp [intOf]; omega
        · obtain rfl : j = p.length := by omega
          go_wp2_with (fail)
          go_ret2
          exact ⟨rfl, hbel⟩
    · have hp : getF b at_ k = (0, (partF b at_ k).2) := by unfold getF; rw [if_pos hs, if_neg he]
      have d1 : ((partF b at_ k).2 != 0) = true := by rw [bne_iff_ne]; exact he
      rw [hp]
      clear hp hs he hb
      generalize (partF b at_ k).1 = p at *
      generalize (partF b at_ k).2 = q at *
      go_enter Try.func36, Try.ntmps36
      go_wp2_with (fail)
      refine (size_any _ _).mono ?_
      rintro e w' ⟨rfl, rfl⟩
      rw [S.out]
      go_wp2_with (fail)
      refine C.out.mono ?_
      rintro e w' ⟨A', c', rfl, ho, hbel⟩
      clear C S
      have hz := hbel.size
      go_wp2_with (fail)
      go_ret2
      exact ⟨rfl, hbel⟩

theorem val_drop (p : List Int) (j : Nat) (h : j < p.length) : valF (p.drop j) = p.getD j 0 + 256 * valF (p.drop (j + 1)) := by
  rw [List.drop_eq_getElem_cons h, List.getD_eq_getElem?_getD, List.getElem?_eq_getElem h]
  rfl

set_option maxHeartbeats 400000 in
theorem rget_any (A : Option Addr) (n c : Nat) (b : List Int) (at_ k : Int) (w : World) (hb : Arg w A n c b) (ha : -9223372036854775808 ≤ at_ ∧ at_ ≤ 9223372036854775807) (hk : -9223372036854775808 ≤ k ∧ k ≤ 9223372036854775807) :
    Calls Try.prog 45 #[.slice A n c, .int .i64 at_, .int .i64 k] w fun e w' => e = .returned (.tuple #[.int .u64 (getF b at_ k).1, .int .i64 (getF b at_ k).2]) ∧ Below w.heap.size w w' := by
  cases hs : szB k with
  | false =>
    have hp : getF b at_ k = (0, 2) := by unfold getF; rw [hs]; exact if_neg (by simp)
    have H := Lib.hid hp
    have S := Lib.hid hs
    clear hp hs
    go_enter Try.func45, Try.ntmps45
    go_wp2_with (fail)
    refine (rsize_any _ _).mono ?_
    rintro e w' ⟨rfl, rfl⟩
    rw [S.out]
    go_wp2_with (fail)
    go_ret2
    rw [H.out]
    exact ⟨rfl, Below.refl _ _⟩
  | true =>
    have C := Lib.hid (rpart_any A n c b at_ k w hb ha hk)
    have S := Lib.hid hs
    have hp : getF b at_ k = (valF (partF b at_ k).1, (partF b at_ k).2) := by
      unfold getF
      rw [if_pos hs]
      split
      · rename_i h; rw [h]
      · rename_i h; rw [partF_err h]; rfl
    have hB := partF_isB hb.isB at_ k
    have h8 : (partF b at_ k).1.length ≤ 8 := by
      by_cases he : (partF b at_ k).2 = 0
      · have := szB_or hs
        have := partF_length he
        omega
      · rw [partF_err he]; simp
    rw [hp]
    clear hp hs hb
    generalize (partF b at_ k).2 = q at *
    generalize (partF b at_ k).1 = p at *
    go_enter Try.func45, Try.ntmps45
    go_wp2_with (fail)
    refine (rsize_any _ _).mono ?_
    rintro e w' ⟨rfl, rfl⟩
    rw [S.out]
    go_wp2_with (fail)
    refine C.out.mono ?_
    rintro e w' ⟨A', c', rfl, ho, hbel⟩
    clear C S
    have hrd := ho.rd
    have hz := hbel.size
    go_wp2_with (fail)
    go_loop [10, 11] (fun v i => ∃ j : Nat, j ≤ p.length ∧ i = .int .i64 (j - 1) ∧ v = .int .u64 (valF (p.drop j))) (fun _ i => (intOf i + 1).toNat)
    case atStart => exact ⟨p.length, by omega, rfl, by simp [valF]⟩
    case round =>
      obtain ⟨j, hj, rfl, rfl⟩ := hrel
      by_cases hlt : 0 < j
      · obtain ⟨j, rfl⟩ : ∃ i, j = i + 1 := ⟨j - 1, by omega⟩
        obtain ⟨ad, rfl, hbk, hc0⟩ := hrd.at_ (show j < p.length by omega)
        have hg := hB.getD j
        have hv1 := valF_bound (p.drop j) (hB.drop _)
        have hv2 := valF_bound (p.drop (j + 1)) (hB.drop _)
        have h256 : (256 : Int) ^ (p.drop j).length ≤ 256 ^ 8 := by
          have : (256 : Nat) ^ (p.drop j).length ≤ 256 ^ 8 := Nat.pow_le_pow_right (by omega) (by rw [List.length_drop]; omega)
          have h2 : ((256 ^ (p.drop j).length : Nat) : Int) ≤ ((256 ^ 8 : Nat) : Int) := by exact_mod_cast this
          simpa using h2
        have hvt := val_drop p j (by omega)
        have hlim : valF (p.drop j) < 18446744073709551616 := Int.lt_of_lt_of_le hv1.2 h256
        have hlo := hv2.1
        clear h256 hv1 hv2
        have hcs : (((j + 1 : Nat) : Int) - 1) = (j : Int) := by omega
        have HV := Lib.hid hvt
        generalize p.getD j 0 = x at *
        obtain ⟨z, hzz⟩ : ∃ z, z = valF (p.drop j) := ⟨_, rfl⟩
        rw [← hzz] at hvt hlim
        have ZZ := Lib.hid hzz
        clear hzz HV
        generalize valF (p.drop (j + 1)) = y at *
        have hm1 : 0 ≤ 256 * y := by omega
        have hm2 : 256 * y < 18446744073709551616 := by omega
        rw [hcs]
        have hm3 : 0 ≤ 256 * y + x := by omega
        have hm4 : 256 * y + x < 18446744073709551616 := by omega
        have hz2 : 256 * y + x = z := by omega
        have Z := Lib.hid hz2
        clear hz2 hvt hlim hcs
        go_wp2_with (fail)
        go_round
        case rel => exact ⟨j, by omega, by go_num, by rw [Z.out, ZZ.out]⟩
        case measure => simp [intOf]
      · obtain rfl : j = 0 := by omega
        go_wp2_with (fail)
        go_ret2
        exact ⟨rfl, hbel⟩
end Go.Proofs.Ytejablcdpakgoaa
