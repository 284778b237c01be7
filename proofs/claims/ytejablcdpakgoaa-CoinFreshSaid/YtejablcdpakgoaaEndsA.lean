/- What the functions of layer 1 answer, in the program and in the reference. -/
import Derived.Test.YtejablcdpakgoaaProg
import Derived.Test.YtejablcdpakgoaaBase
import Derived.Test.YtejablcdpakgoaaEndsM
import Derived.WalkSmall
namespace Go.Proofs.Ytejablcdpakgoaa
open Go.RowKit Go.Proofs En
set_option linter.unusedVariables false
set_option linter.unusedSimpArgs false

theorem inf_b : (Try.prog.info? 5).map (fun i => (i.zero, i.size, i.bytes)) = some (some (.int .u8 0), 1, 1) := by kernel_rfl

/-- bytes of one's own -/
abbrev OwnB (w : World) (base : Nat) (A : Option Addr) (n c : Nat) (xs : List Int) : Prop := OwnN w base 5 .u8 A n c xs

set_option maxHeartbeats 400000 in
theorem size_any (n : Int) (w : World) :
    Calls Try.prog 50 #[.int .i64 n] w fun e w' => e = .returned (.bool (szB n)) ∧ w = w' := by
  by_cases h1 : n = 1
  · subst h1
    go_enter Try.func50, Try.ntmps50
    go_wp2
    go_ret
    exact ⟨rfl, rfl⟩
  · have t1 : (n == 1) = false := beq_eq_false_iff_ne.2 h1
    by_cases h2 : n = 2
    · subst h2
      go_enter Try.func50, Try.ntmps50
      go_wp2
      go_ret
      exact ⟨rfl, rfl⟩
    · have t2 : (n == 2) = false := beq_eq_false_iff_ne.2 h2
      by_cases h3 : n = 4
      · subst h3
        go_enter Try.func50, Try.ntmps50
        go_wp2
        go_ret
        exact ⟨rfl, rfl⟩
      · have t3 : (n == 4) = false := beq_eq_false_iff_ne.2 h3
        have hs : szB n = (n == 8) := by unfold szB; by_cases h : n = 8 <;> simp [h, h1, h2, h3]
        have H := Lib.hid hs
        clear hs h1 h2 h3
        go_enter Try.func50, Try.ntmps50
        go_wp2
        go_ret
        exact ⟨by rw [H.out]; rfl, rfl⟩

set_option maxHeartbeats 400000 in
theorem rsize_any (n : Int) (w : World) :
    Calls Try.prog 54 #[.int .i64 n] w fun e w' => e = .returned (.bool (szB n)) ∧ w = w' := by
  by_cases h1 : n = 1
  · subst h1
    go_enter Try.func54, Try.ntmps54
    go_wp2
    go_ret
    exact ⟨rfl, rfl⟩
  · have t1 : (n == 1) = false := beq_eq_false_iff_ne.2 h1
    by_cases h2 : n = 2
    · subst h2
      go_enter Try.func54, Try.ntmps54
      go_wp2
      go_ret
      exact ⟨rfl, rfl⟩
    · have t2 : (n == 2) = false := beq_eq_false_iff_ne.2 h2
      by_cases h3 : n = 4
      · subst h3
        go_enter Try.func54, Try.ntmps54
        go_wp2
        go_ret
        exact ⟨rfl, rfl⟩
      · have t3 : (n == 4) = false := beq_eq_false_iff_ne.2 h3
        have hs : szB n = (n == 8) := by unfold szB; by_cases h : n = 8 <;> simp [h, h1, h2, h3]
        have H := Lib.hid hs
        clear hs h1 h2 h3
        go_enter Try.func54, Try.ntmps54
        go_wp2
        go_ret
        exact ⟨by rw [H.out]; rfl, rfl⟩

theorem pow_shift (k : Nat) : (2 : Int) ^ (8 * k) = 256 ^ k := by
  rw [show (256 : Int) = 2 ^ 8 from rfl, ← Int.pow_mul]

set_option maxHeartbeats 400000 in
theorem low_any (n : Int) (m : Nat) (w : World) (hn : 0 ≤ n ∧ n < 18446744073709551616) (hm : m ≤ 8) :
    Calls Try.prog 57 #[.int .u64 n, .int .i64 m] w fun e w' => ∃ A c, e = .returned (.slice A m c) ∧ OwnB w' w.heap.size A m c (lowF n m) ∧ Below w.heap.size w w' := by
  go_enter Try.func57, Try.ntmps57
  go_wp2_with (at_make; refine Stop.mk ?_)
  refine Stop.out ?_
  refine wpList_makeN _ rfl (.tmp 7) (.tmp 7) _ rfl w.heap.size 5 .u8 1 Try.underlying29 inf_b m rfl rfl (by omega) (by unfold maxLen; omega) (Nat.le_refl _) ?_
  intro w1 hown hg
  have hbel : Below w.heap.size w w1 := (Below.refl _ _).grown hg (Nat.le_refl _) (fun _ h => by cases h)
  go_wp2_with (fail)
  go_loopw [11] (fun i wr => ∃ k : Nat, k ≤ m ∧ i = .int .i64 k ∧ OwnB wr w.heap.size (some ⟨w.heap.size, 0, none⟩) m m (lowF n k ++ List.replicate (m - k) 0) ∧ Below w.heap.size w wr) (fun i _ => m - (intOf i).toNat)
  case atStart => exact ⟨0, by omega, rfl, hown, hbel⟩
  case round =>
    obtain ⟨k, hk, rfl, ho, hb⟩ := hrel
    by_cases hlt : k < m
    · obtain ⟨u, hc, _, hf⟩ := Own.cap_cell ho k (by omega)
      clear hown hbel hg
      go_wp2_with (fail)
      go_roundw
      case rel =>
        refine ⟨k + 1, by omega, by go_num, ?_, hb.setCell (Nat.le_refl _) _⟩
        have h := OwnN.set ho k (n / 2 ^ (8 * k) % 256)
        rw [set_fill _ _ _ _ k (lowF_length k n) (by omega), pow_shift, ← lowF_snoc, Nat.sub_sub] at h
        rw [pow_shift]
        exact h
      case measure => simp [intOf]; omega
    · obtain rfl : k = m := by omega
      rw [Nat.sub_self, List.replicate_zero, List.append_nil] at ho
      clear hown hbel hg
      go_wp2_with (fail)
      go_ret
      exact ⟨_, _, rfl, ho, hb⟩

set_option maxHeartbeats 400000 in
theorem rlow_any (n : Int) (m : Nat) (w : World) (hn : 0 ≤ n ∧ n < 18446744073709551616) (hm : m ≤ 8) :
    Calls Try.prog 58 #[.int .u64 n, .int .i64 m] w fun e w' => ∃ A c, e = .returned (.slice A m c) ∧ OwnB w' w.heap.size A m c (lowF n m) ∧ Below w.heap.size w w' := by
  go_enter Try.func58, Try.ntmps58
  go_wp2_with (fail)
  go_loopw [0, 5, 6] (fun x l i wr => ∃ k : Nat, k ≤ m ∧ i = .int .i64 k ∧ x = .int .u64 (n / 256 ^ k) ∧ ∃ A c, l = .slice A k c ∧ OwnB wr w.heap.size A k c (lowF n k) ∧ Below w.heap.size w wr) (fun _ _ i _ => m - (intOf i).toNat)
  case atStart => exact ⟨0, by omega, rfl, by simp, none, 0, rfl, OwnN.nil _ _ _ _, Below.refl _ _⟩
  case round =>
    obtain ⟨k, hk, rfl, rfl, A, c, rfl, ho, hb⟩ := hrel
    have hp : (0 : Int) < 256 ^ k := Int.pow_pos (by omega)
    have hx : 0 ≤ n / 256 ^ k ∧ n / 256 ^ k < 18446744073709551616 := ⟨Int.ediv_nonneg hn.1 (Int.le_of_lt hp), Int.lt_of_le_of_lt (Int.ediv_le_self _ hn.1) hn.2⟩
    have e1 : n / 256 ^ (k + 1) = n / 256 ^ k / 256 := by rw [Int.pow_succ, Int.ediv_ediv_of_nonneg (Int.le_of_lt hp)]
    have e2 := lowF_snoc k n
    have E := Lib.hid (And.intro e1 e2)
    clear e1 e2 hp
    generalize n / 256 ^ k = x at *
    by_cases hlt : k < m
    · have hz := hb.size
      go_wp2_with (at_builtin; refine Stop.mk ?_)
      refine Stop.out ?_
      refine wpList_appN _ rfl (.tmp 12) (.tmp 16) _ rfl w.heap.size 5 .u8 1 Try.underlying29 inf_b A k c (lowF n k) rfl (ho.alloc _) (some ⟨wr.heap.size, 0, none⟩) 1 1 [x % 256] rfl
        (OwnN.lit (base := 0) (e := 5) (k := .u8) wr [x % 256] 1 (Nat.zero_le _) (by decide) rfl).rd ?_ ?_ ?_ ?_
      · unfold maxLen; omega
      · omega
      · simp; omega
      intro A' c' w1 ho' hg hA
      have hb1 : Below w.heap.size w w1 := (hb.alloc hb.size _).grown hg (by simp; omega) (fun g hg => (ho.lt g hg).1)
      rw [← E.out.2] at ho'
      have H := Lib.hid (And.intro ho' hb1)
      clear ho' hb1 hg hA ho hb
      go_wp2_with (fail)
      go_roundw
      case rel => exact ⟨k + 1, by omega, by go_num, by rw [E.out.1], A', c', rfl, H.out.1, H.out.2⟩
      case measure => simp [intOf]; omega
    · obtain rfl : k = m := by omega
      clear hx
      go_wp2_with (fail)
      go_ret
      exact ⟨_, _, rfl, ho, hb⟩
end Go.Proofs.Ytejablcdpakgoaa
