/- What the statements' own helpers answer: Same. -/
import Derived.Test.YtejablcdpakgoaaProg
import Derived.Test.YtejablcdpakgoaaBase
import Derived.WalkSmall
namespace Go.Proofs.Ytejablcdpakgoaa
open Go.RowKit Go.Proofs
set_option linter.unusedVariables false
set_option linter.unusedSimpArgs false

theorem take_eq_snoc {xs ys : List Int} {j : Nat} (h1 : j < xs.length) (h2 : j < ys.length) (h : xs.take j = ys.take j) (he : xs.getD j 0 = ys.getD j 0) : xs.take (j + 1) = ys.take (j + 1) := by
  rw [List.take_succ_eq_append_getElem h1, List.take_succ_eq_append_getElem h2, h]
  rw [List.getD_eq_getElem?_getD, List.getD_eq_getElem?_getD, List.getElem?_eq_getElem h1, List.getElem?_eq_getElem h2] at he
  congr 2

theorem take_snoc0 (p : List Int) (j : Nat) (h : j < p.length) : p.take (j + 1) = p.take j ++ [p.getD j 0] := by
  rw [List.take_succ_eq_append_getElem h, List.getD_eq_getElem?_getD, List.getElem?_eq_getElem h]
  rfl

set_option maxHeartbeats 400000 in
theorem same_any (A : Option Addr) (n c : Nat) (xs : List Int) (B : Option Addr) (m d : Nat) (ys : List Int) (w : World) (hA : RdN w .u8 A n xs) (hB : RdN w .u8 B m ys) (hn : n ≤ 9223372036854775807) :
    Calls Try.prog 13 #[.slice A n c, .slice B m d] w fun e w' => e = .returned (.bool (decide (xs = ys))) ∧ Below w.heap.size w w' := by
  have hlx := hA.len
  have hly := hB.len
  by_cases hnm : n = m
  · subst hnm
    have LX := Lib.hid hlx
    have LY := Lib.hid hly
    clear hlx hly
    go_enter Try.func13, Try.ntmps13
    go_wp2_with (fail)
    go_loopw [5] (fun i wr => ∃ j : Nat, j ≤ n ∧ i = .int .i64 j ∧ xs.take j = ys.take j ∧ Below w.heap.size w wr) (fun i _ => n - (intOf i).toNat)
    case atStart => exact ⟨0, by omega, rfl, by simp, Below.refl _ _⟩
    case round =>
      obtain ⟨j, hj, rfl, ht, hbel⟩ := hrel
      have T := Lib.hid ht
      clear ht
      by_cases hlt : j < n
      · have hA2 := hA.below hbel
        have hB2 := hB.below hbel
        obtain ⟨a, rfl, hba, hca⟩ := hA2.at_ hlt
        obtain ⟨b, rfl, hbb, hcb⟩ := hB2.at_ hlt
        obtain ⟨x, hx⟩ : ∃ x, x = xs.getD j 0 := ⟨_, rfl⟩
        obtain ⟨y, hy⟩ : ∃ y, y = ys.getD j 0 := ⟨_, rfl⟩
        rw [← hx] at hca
        rw [← hy] at hcb
        have hz := hbel.size
        by_cases hxy : x = y
        · have d1 : (x != y) = false := by rw [bne_eq_false_iff_eq]; exact hxy
          have HX := Lib.hid (hx.symm.trans (hxy.trans hy))
          clear hx hy hxy
          go_wp2_with (fail)
          go_quiet (fail)
          go_wp2_with (fail)
          go_roundw
          case rel => exact ⟨j + 1, by omega, by go_num, take_eq_snoc (by rw [LX.out]; exact hlt) (by rw [LY.out]; exact hlt) T.out HX.out, belN hbel _⟩
          case measure => simp [intOf]; omega
        · have d1 : (x != y) = true := by rw [bne_iff_ne]; exact hxy
          have HX := Lib.hid (And.intro hx (And.intro hy hxy))
          clear hx hy hxy
          go_wp2_with (fail)
          go_quiet (fail)
          go_wp2_with (fail)
          go_ret
          have hf : decide (xs = ys) = false := by
            rw [decide_eq_false_iff_not]
            intro e
            obtain ⟨h1, h2, h3⟩ := HX.out
            exact h3 (by rw [h1, h2, e])
          exact ⟨by rw [hf]; rfl, belN hbel _⟩
      · obtain rfl : j = n := by omega
        go_wp2_with (fail)
        go_ret
        refine ⟨?_, hbel⟩
        have e := T.out
        rw [List.take_of_length_le (by rw [LX.out]; exact Nat.le_refl _), List.take_of_length_le (by rw [LY.out]; exact Nat.le_refl _)] at e
        rw [decide_eq_true e]; rfl
  · have hne : ¬ (xs = ys) := by intro e; apply hnm; rw [← hlx, ← hly, e]
    have d1 : ((n : Int) != m) = true := by rw [bne_iff_ne]; omega
    have H := Lib.hid hne
    clear hne hnm hlx hly
    go_enter Try.func13, Try.ntmps13
    go_wp2_with (fail)
    go_ret
    exact ⟨by rw [decide_eq_false H.out]; rfl, Below.refl _ _⟩

set_option maxHeartbeats 400000 in
theorem wide_any (inf : (Try.prog.info? 5).map (fun i => (i.zero, i.size, i.bytes)) = some (some (.int .u8 0), 1, 1)) (B : Option Addr) (n d : Nat) (b : List Int) (w : World) (hB : RdN w .u8 B n b) (hn : n ≤ 140737488355328) :
    Calls Try.prog 27 #[.slice B n d] w fun e w' => ∃ A, e = .returned (.slice A n (n + 3)) ∧ OwnN w' w.heap.size 5 .u8 A (n + 3) (n + 3) (b ++ [7, 7, 7]) ∧ Below w.heap.size w w' := by
  have hl := hB.len
  have LB := Lib.hid hl
  clear hl
  go_enter Try.func27, Try.ntmps27
  go_wp2_with (at_make; refine Stop.mk ?_)
  refine Stop.out ?_
  refine wpList_makeN _ rfl (.tmp 8) (.tmp 8) _ rfl w.heap.size 5 .u8 1 Try.underlying29 inf (n + 3) rfl rfl (by omega) (by unfold maxLen; omega) (Nat.le_refl _) ?_
  intro w1 hown hg
  have hbel : Below w.heap.size w w1 := (Below.refl _ _).grown hg (Nat.le_refl _) (fun _ h => by cases h)
  have I := Lib.hid (And.intro hown hbel)
  clear hown hbel hg
  go_wp2_with (fail)
  go_loopw [4] (fun i wr => ∃ k : Nat, k ≤ n ∧ i = .int .i64 k ∧ OwnN wr w.heap.size 5 .u8 (some ⟨w.heap.size, 0, none⟩) (n + 3) (n + 3) (b.take k ++ List.replicate (n + 3 - k) 0) ∧ Below w.heap.size w wr) (fun i _ => n - (intOf i).toNat)
  case atStart => exact ⟨0, by omega, rfl, by simpa using I.out.1, I.out.2⟩
  case round =>
    obtain ⟨k, hk, rfl, ho, hb⟩ := hrel
    by_cases hlt : k < n
    · obtain ⟨u, hc, _, hf⟩ := Own.cap_cell ho k (by omega)
      have hB2 := hB.below hb
      obtain ⟨a, rfl, hba, hca⟩ := hB2.at_ hlt
      have hS := take_snoc0 b k (by rw [LB.out]; exact hlt)
      have SN := Lib.hid hS
      clear hS
      generalize b.getD k 0 = x at *
      have d0 : decide (k < n + 3) = true := decide_eq_true (by omega)
      go_wp2_with (fail)
      go_roundw
      case rel =>
        refine ⟨k + 1, by omega, by go_num, ?_, hb.setCell (Nat.le_refl _) _⟩
        have h := OwnN.set ho k x
        rw [set_fill _ _ _ _ k (by rw [List.length_take, LB.out]; omega) (by omega), ← SN.out, Nat.sub_sub] at h
        exact h
      case measure => simp [intOf]; omega
    · obtain rfl : k = n := by omega
      have I2 := Lib.hid (And.intro ho hb)
      have hz := hb.size
      clear ho hb
      go_wp2_with (fail)
      go_loopw [5] (fun i wr => ∃ j : Nat, j ≤ 3 ∧ i = .int .i64 (k + j : Nat) ∧ OwnN wr w.heap.size 5 .u8 (some ⟨w.heap.size, 0, none⟩) (k + 3) (k + 3) ((b ++ List.replicate j 7) ++ List.replicate (3 - j) 0) ∧ Below w.heap.size w wr) (fun i _ => k + 3 - (intOf i).toNat)
      case atStart =>
        refine ⟨0, by omega, rfl, ?_, I2.out.2⟩
        have h := I2.out.1
        rw [List.take_of_length_le (by rw [LB.out]; exact Nat.le_refl _), Nat.add_sub_cancel_left] at h
        simpa using h
      case round =>
        obtain ⟨j, hj, rfl, ho, hb⟩ := hrel
        by_cases hlt2 : j < 3
        · obtain ⟨u, hc, _, hf⟩ := Own.cap_cell ho (k + j) (by omega)
          have d0 : decide (k + j < k + 3) = true := decide_eq_true (by omega)
          have d1 : decide (((k + j : Nat) : Int) < ((k + 3 : Nat) : Int)) = true := by rw [decide_eq_true_eq]; omega
          go_wp2_with (fail)
          go_roundw
          case rel =>
            refine ⟨j + 1, by omega, by go_num, ?_, hb.setCell (Nat.le_refl _) _⟩
            have h := OwnN.set ho (k + j) 7
            rw [set_fill _ _ _ _ (k + j) (by simp [LB.out]) (by omega), Nat.sub_sub, List.append_assoc b, ← List.replicate_succ'] at h
            exact h
          case measure => simp [intOf]; omega
        · obtain rfl : j = 3 := by omega
          have d1 : decide (((k + 3 : Nat) : Int) < ((k + 3 : Nat) : Int)) = false := by rw [decide_eq_false_iff_not]; omega
          go_wp2_with (fail)
          go_ret
          exact ⟨_, rfl, by simpa using ho, hb⟩


set_option maxHeartbeats 400000 in
theorem spoil_any (A : Option Addr) (n c base : Nat) (xs : List Int) (x : Int) (w : World) (ho : OwnN w base 5 .u8 A n c xs) (hbase : base ≤ w.heap.size) (hc : c ≤ 9223372036854775807) :
    Calls Try.prog 28 #[.slice A n c, .int .u8 x] w fun e w' => e = .returned (.tuple #[]) ∧ Below base w w' ∧ ∃ ys, OwnN w' base 5 .u8 A n c ys := by
  have hnc := Own.len_cap ho
  have I := Lib.hid ho
  have HA := Lib.hid ho.lt
  go_enter Try.func28, Try.ntmps28
  go_wp2_with (fail)
  go_loopw [5] (fun i wr => ∃ k : Nat, k ≤ c ∧ i = .int .i64 k ∧ (∃ ys, OwnN wr base 5 .u8 A n c ys) ∧ Below base w wr) (fun i _ => c - (intOf i).toNat)
  case atStart => exact ⟨0, by omega, rfl, ⟨xs, I.out⟩, Below.refl _ _⟩
  case round =>
    obtain ⟨k, hk, rfl, ⟨ys, ho2⟩, hb⟩ := hrel
    by_cases hlt : k < c
    · obtain ⟨g, rfl⟩ : ∃ g, A = some ⟨g, 0, none⟩ := by
        rcases ho2.2 with ⟨_, _, h0⟩ | ⟨g, _, h, _⟩
        · omega
        · exact ⟨g, h⟩
      obtain ⟨u, hcell, ⟨y, hy⟩, hf⟩ := Own.cap_cell ho2 k (by omega)
      subst hy
      have hg := (HA.out g (by simp [blk])).1
      clear hnc
      go_wp2_with (fail)
      go_roundw
      case rel => exact ⟨k + 1, by omega, by go_num, ⟨_, OwnN.set ho2 k _⟩, hb.setCell hg _⟩
      case measure => simp [intOf]; omega
    · obtain rfl : k = c := by omega
      go_wp2_with (fail)
      go_end0
      exact ⟨rfl, hb, ys, ho2⟩

set_option maxHeartbeats 400000 in
theorem left_any (A : Option Addr) (n : Nat) (B : Option Addr) (d : Nat) (b : List Int) (w : World) (hA : RdN w .u8 A (n + 3) (b ++ [7, 7, 7])) (hB : RdN w .u8 B n b) (hn : n ≤ 140737488355328) :
    Calls Try.prog 29 #[.slice A n (n + 3), .slice B n d] w fun e w' => e = .returned (.bool true) ∧ Below w.heap.size w w' := by
  have hl := hB.len
  have h0 := hA.sub (lo := 0) (m := n) (by omega)
  have hA0 : RdN w .u8 A n b := by
    rw [List.drop_zero, List.take_append_of_le_length (by omega), List.take_of_length_le (by omega)] at h0
    rcases A with _ | a
    · exact h0
    · have e : a.add 0 = a := by unfold Addr.add; simp
      simp only [Option.map_some, e] at h0
      exact h0
  clear h0
  have C := (same_any A n (n + 3) b B n d b w hA0 hB (by omega))
  rw [show decide (b = b) = true from decide_eq_true rfl] at C
  have C := Lib.hid C
  have LB := Lib.hid hl
  clear hl hA0
  go_enter Try.func29, Try.ntmps29
  go_wp2_with (fail)
  refine C.out.mono ?_
  rintro e w' ⟨rfl, hbel⟩
  have hA2 := hA.below hbel
  have hz := hbel.size
  have d9 : decide (((n : Int) + 3) < ((n : Int) + 3)) = false := decide_eq_false (by omega)
  clear C
  go_wp2_with (fail)
  go_loop [6] (fun i => ∃ j : Nat, j ≤ 3 ∧ i = .int .i64 (n + j : Nat)) (fun i => n + 3 - (intOf i).toNat)
  case atStart => exact ⟨0, by omega, rfl⟩
  case round =>
    obtain ⟨j, hj, rfl⟩ := hrel
    by_cases hlt : j < 3
    · obtain ⟨a, rfl, hba, hca⟩ := hA2.at_ (show n + j < n + 3 by omega)
      have h7 : (b ++ [7, 7, 7]).getD (n + j) 0 = 7 := by
        rw [List.getD_eq_getElem?_getD, List.getElem?_append_right (by rw [LB.out]; omega), LB.out, Nat.add_sub_cancel_left]
        have : j = 0 ∨ j = 1 ∨ j = 2 := by omega
        rcases this with rfl | rfl | rfl <;> rfl
      rw [h7] at hca
      have d1 : decide (((n + j : Nat) : Int) < ((n : Int) + 3)) = true := by rw [decide_eq_true_eq]; omega
      go_wp2_with (fail)
      go_round
      case rel => exact ⟨j + 1, by omega, by go_num⟩
      case measure => simp [intOf]; omega
    · obtain rfl : j = 3 := by omega
      have d1 : decide (((n + 3 : Nat) : Int) < ((n : Int) + 3)) = false := by rw [decide_eq_false_iff_not]; omega
      go_wp2_with (fail)
      go_ret
      exact ⟨rfl, hbel⟩
end Go.Proofs.Ytejablcdpakgoaa
