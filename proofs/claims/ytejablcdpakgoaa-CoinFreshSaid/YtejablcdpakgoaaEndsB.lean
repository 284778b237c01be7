/- What Put, Part and Get answer, in the program and in the reference. -/
import Derived.Test.YtejablcdpakgoaaEndsA
namespace Go.Proofs.Ytejablcdpakgoaa
open Go.RowKit Go.Proofs En
set_option linter.unusedVariables false
set_option linter.unusedSimpArgs false

theorem szB_or {m : Int} (h : szB m = true) : m = 1 ∨ m = 2 ∨ m = 4 ∨ m = 8 := by simpa [szB] using h

set_option maxHeartbeats 400000 in
theorem put_any (n m : Int) (w : World) (hn : 0 ≤ n ∧ n < 18446744073709551616) :
    Calls Try.prog 48 #[.int .u64 n, .int .i64 m] w fun e w' => ∃ A c, e = .returned (.tuple #[.slice A (putF n m).1.length c, .int .i64 (putF n m).2]) ∧ OwnB w' w.heap.size A (putF n m).1.length c (putF n m).1 ∧ Below w.heap.size w w' := by
  cases hs : szB m with
  | false =>
    have hp : putF n m = ([], 2) := by unfold putF; rw [hs]; exact if_neg (by simp)
    have H := Lib.hid hp
    have S := Lib.hid hs
    clear hp hs
    go_enter Try.func48, Try.ntmps48
    go_wp2_with (fail)
    refine (size_any _ _).mono ?_
    rintro e w' ⟨rfl, rfl⟩
    rw [S.out]
    go_wp2_with (fail)
    go_ret2
    rw [H.out]
    exact ⟨none, 0, rfl, OwnN.nil _ _ _ _, Below.refl _ _⟩
  | true =>
    have hm := szB_or hs
    clear hs
    rcases hm with rfl | rfl | rfl | rfl
    · by_cases h : n < 256
      · have hp : putF n 1 = (lowF n 1, 0) := by unfold putF; exact if_pos ⟨by decide, .inr h⟩
        have H := Lib.hid hp
        have t1 : decide (n / 256 > 0) = false := by rw [decide_eq_false_iff_not]; omega
        have t2 : (n / 256 != 0) = false := by rw [bne_eq_false_iff_eq]; omega
        have t3 : szB 1 = true := by decide
        clear hp h
        have C := Lib.hid (low_any n 1 w hn (by omega))
        go_enter Try.func48, Try.ntmps48
        go_wp2_with (fail)
        refine (size_any _ _).mono ?_
        rintro e w' ⟨rfl, rfl⟩
        rw [t3]
        go_wp2_with (fail)
        refine C.out.mono ?_
        rintro e w' ⟨A, c, rfl, ho, hb⟩
        go_wp2_with (fail)
        go_ret2
        rw [H.out]
        exact ⟨A, c, by rw [lowF_length]; rfl, by rw [lowF_length]; exact ho, hb⟩
      · have hp : putF n 1 = ([], 2) := by unfold putF; exact if_neg (fun h2 => h (h2.2.resolve_left (by omega)))
        have H := Lib.hid hp
        have t1 : decide (n / 256 > 0) = true := by rw [decide_eq_true_eq]; omega
        have t2 : (n / 256 != 0) = true := by rw [bne_iff_ne]; omega
        have t3 : szB 1 = true := by decide
        clear hp h
        go_enter Try.func48, Try.ntmps48
        go_wp2_with (fail)
        refine (size_any _ _).mono ?_
        rintro e w' ⟨rfl, rfl⟩
        rw [t3]
        go_wp2_with (fail)
        go_ret2
        rw [H.out]
        exact ⟨none, 0, rfl, OwnN.nil _ _ _ _, Below.refl _ _⟩
    · by_cases h : n < 65536
      · have hp : putF n 2 = (lowF n 2, 0) := by unfold putF; exact if_pos ⟨by decide, .inr h⟩
        have H := Lib.hid hp
        have t1 : decide (n / 65536 > 0) = false := by rw [decide_eq_false_iff_not]; omega
        have t2 : (n / 65536 != 0) = false := by rw [bne_eq_false_iff_eq]; omega
        have t3 : szB 2 = true := by decide
        clear hp h
        have C := Lib.hid (low_any n 2 w hn (by omega))
        go_enter Try.func48, Try.ntmps48
        go_wp2_with (fail)
        refine (size_any _ _).mono ?_
        rintro e w' ⟨rfl, rfl⟩
        rw [t3]
        go_wp2_with (fail)
        refine C.out.mono ?_
        rintro e w' ⟨A, c, rfl, ho, hb⟩
        go_wp2_with (fail)
        go_ret2
        rw [H.out]
        exact ⟨A, c, by rw [lowF_length]; rfl, by rw [lowF_length]; exact ho, hb⟩
      · have hp : putF n 2 = ([], 2) := by unfold putF; exact if_neg (fun h2 => h (h2.2.resolve_left (by omega)))
        have H := Lib.hid hp
        have t1 : decide (n / 65536 > 0) = true := by rw [decide_eq_true_eq]; omega
        have t2 : (n / 65536 != 0) = true := by rw [bne_iff_ne]; omega
        have t3 : szB 2 = true := by decide
        clear hp h
        go_enter Try.func48, Try.ntmps48
        go_wp2_with (fail)
        refine (size_any _ _).mono ?_
        rintro e w' ⟨rfl, rfl⟩
        rw [t3]
        go_wp2_with (fail)
        go_ret2
        rw [H.out]
        exact ⟨none, 0, rfl, OwnN.nil _ _ _ _, Below.refl _ _⟩
    · by_cases h : n < 4294967296
      · have hp : putF n 4 = (lowF n 4, 0) := by unfold putF; exact if_pos ⟨by decide, .inr h⟩
        have H := Lib.hid hp
        have t1 : decide (n / 4294967296 > 0) = false := by rw [decide_eq_false_iff_not]; omega
        have t2 : (n / 4294967296 != 0) = false := by rw [bne_eq_false_iff_eq]; omega
        have t3 : szB 4 = true := by decide
        clear hp h
        have C := Lib.hid (low_any n 4 w hn (by omega))
        go_enter Try.func48, Try.ntmps48
        go_wp2_with (fail)
        refine (size_any _ _).mono ?_
        rintro e w' ⟨rfl, rfl⟩
        rw [t3]
        go_wp2_with (fail)
        refine C.out.mono ?_
        rintro e w' ⟨A, c, rfl, ho, hb⟩
        go_wp2_with (fail)
        go_ret2
        rw [H.out]
        exact ⟨A, c, by rw [lowF_length]; rfl, by rw [lowF_length]; exact ho, hb⟩
      · have hp : putF n 4 = ([], 2) := by unfold putF; exact if_neg (fun h2 => h (h2.2.resolve_left (by omega)))
        have H := Lib.hid hp
        have t1 : decide (n / 4294967296 > 0) = true := by rw [decide_eq_true_eq]; omega
        have t2 : (n / 4294967296 != 0) = true := by rw [bne_iff_ne]; omega
        have t3 : szB 4 = true := by decide
        clear hp h
        go_enter Try.func48, Try.ntmps48
        go_wp2_with (fail)
        refine (size_any _ _).mono ?_
        rintro e w' ⟨rfl, rfl⟩
        rw [t3]
        go_wp2_with (fail)
        go_ret2
        rw [H.out]
        exact ⟨none, 0, rfl, OwnN.nil _ _ _ _, Below.refl _ _⟩
    · have hp : putF n 8 = (lowF n 8, 0) := by unfold putF; exact if_pos ⟨by decide, .inl (by omega)⟩
      have H := Lib.hid hp
      have t3 : szB 8 = true := by decide
      clear hp
      have C := Lib.hid (low_any n 8 w hn (by omega))
      go_enter Try.func48, Try.ntmps48
      go_wp2_with (fail)
      refine (size_any _ _).mono ?_
      rintro e w' ⟨rfl, rfl⟩
      rw [t3]
      go_wp2_with (fail)
      refine C.out.mono ?_
      rintro e w' ⟨A, c, rfl, ho, hb⟩
      go_wp2_with (fail)
      go_ret2
      rw [H.out]
      exact ⟨A, c, by rw [lowF_length]; rfl, by rw [lowF_length]; exact ho, hb⟩

set_option maxHeartbeats 400000 in
theorem rput_any (n m : Int) (w : World) (hn : 0 ≤ n ∧ n < 18446744073709551616) :
    Calls Try.prog 52 #[.int .u64 n, .int .i64 m] w fun e w' => ∃ A c, e = .returned (.tuple #[.slice A (putF n m).1.length c, .int .i64 (putF n m).2]) ∧ OwnB w' w.heap.size A (putF n m).1.length c (putF n m).1 ∧ Below w.heap.size w w' := by
  cases hs : szB m with
  | false =>
    have hp : putF n m = ([], 2) := by unfold putF; rw [hs]; exact if_neg (by simp)
    have H := Lib.hid hp
    have S := Lib.hid hs
    clear hp hs
    go_enter Try.func52, Try.ntmps52
    go_wp2_with (fail)
    refine (rsize_any _ _).mono ?_
    rintro e w' ⟨rfl, rfl⟩
    rw [S.out]
    go_wp2_with (fail)
    go_ret2
    rw [H.out]
    exact ⟨none, 0, rfl, OwnN.nil _ _ _ _, Below.refl _ _⟩
  | true =>
    have hm := szB_or hs
    clear hs
    rcases hm with rfl | rfl | rfl | rfl
    · by_cases h : n < 256
      · have hp : putF n 1 = (lowF n 1, 0) := by unfold putF; exact if_pos ⟨by decide, .inr h⟩
        have H := Lib.hid hp
        have t1 : decide (n / 256 > 0) = false := by rw [decide_eq_false_iff_not]; omega
        have t2 : (n / 256 != 0) = false := by rw [bne_eq_false_iff_eq]; omega
        have t3 : szB 1 = true := by decide
        clear hp h
        have C := Lib.hid (rlow_any n 1 w hn (by omega))
        go_enter Try.func52, Try.ntmps52
        go_wp2_with (fail)
        refine (rsize_any _ _).mono ?_
        rintro e w' ⟨rfl, rfl⟩
        rw [t3]
        go_wp2_with (fail)
        refine C.out.mono ?_
        rintro e w' ⟨A, c, rfl, ho, hb⟩
        go_wp2_with (fail)
        go_ret2
        rw [H.out]
        exact ⟨A, c, by rw [lowF_length]; rfl, by rw [lowF_length]; exact ho, hb⟩
      · have hp : putF n 1 = ([], 2) := by unfold putF; exact if_neg (fun h2 => h (h2.2.resolve_left (by omega)))
        have H := Lib.hid hp
        have t1 : decide (n / 256 > 0) = true := by rw [decide_eq_true_eq]; omega
        have t2 : (n / 256 != 0) = true := by rw [bne_iff_ne]; omega
        have t3 : szB 1 = true := by decide
        clear hp h
        go_enter Try.func52, Try.ntmps52
        go_wp2_with (fail)
        refine (rsize_any _ _).mono ?_
        rintro e w' ⟨rfl, rfl⟩
        rw [t3]
        go_wp2_with (fail)
        go_ret2
        rw [H.out]
        exact ⟨none, 0, rfl, OwnN.nil _ _ _ _, Below.refl _ _⟩
    · by_cases h : n < 65536
      · have hp : putF n 2 = (lowF n 2, 0) := by unfold putF; exact if_pos ⟨by decide, .inr h⟩
        have H := Lib.hid hp
        have t1 : decide (n / 65536 > 0) = false := by rw [decide_eq_false_iff_not]; omega
        have t2 : (n / 65536 != 0) = false := by rw [bne_eq_false_iff_eq]; omega
        have t3 : szB 2 = true := by decide
        clear hp h
        have C := Lib.hid (rlow_any n 2 w hn (by omega))
        go_enter Try.func52, Try.ntmps52
        go_wp2_with (fail)
        refine (rsize_any _ _).mono ?_
        rintro e w' ⟨rfl, rfl⟩
        rw [t3]
        go_wp2_with (fail)
        refine C.out.mono ?_
        rintro e w' ⟨A, c, rfl, ho, hb⟩
        go_wp2_with (fail)
        go_ret2
        rw [H.out]
        exact ⟨A, c, by rw [lowF_length]; rfl, by rw [lowF_length]; exact ho, hb⟩
      · have hp : putF n 2 = ([], 2) := by unfold putF; exact if_neg (fun h2 => h (h2.2.resolve_left (by omega)))
        have H := Lib.hid hp
        have t1 : decide (n / 65536 > 0) = true := by rw [decide_eq_true_eq]; omega
        have t2 : (n / 65536 != 0) = true := by rw [bne_iff_ne]; omega
        have t3 : szB 2 = true := by decide
        clear hp h
        go_enter Try.func52, Try.ntmps52
        go_wp2_with (fail)
        refine (rsize_any _ _).mono ?_
        rintro e w' ⟨rfl, rfl⟩
        rw [t3]
        go_wp2_with (fail)
        go_ret2
        rw [H.out]
        exact ⟨none, 0, rfl, OwnN.nil _ _ _ _, Below.refl _ _⟩
    · by_cases h : n < 4294967296
      · have hp : putF n 4 = (lowF n 4, 0) := by unfold putF; exact if_pos ⟨by decide, .inr h⟩
        have H := Lib.hid hp
        have t1 : decide (n / 4294967296 > 0) = false := by rw [decide_eq_false_iff_not]; omega
        have t2 : (n / 4294967296 != 0) = false := by rw [bne_eq_false_iff_eq]; omega
        have t3 : szB 4 = true := by decide
        clear hp h
        have C := Lib.hid (rlow_any n 4 w hn (by omega))
        go_enter Try.func52, Try.ntmps52
        go_wp2_with (fail)
        refine (rsize_any _ _).mono ?_
        rintro e w' ⟨rfl, rfl⟩
        rw [t3]
        go_wp2_with (fail)
        refine C.out.mono ?_
        rintro e w' ⟨A, c, rfl, ho, hb⟩
        go_wp2_with (fail)
        go_ret2
        rw [H.out]
        exact ⟨A, c, by rw [lowF_length]; rfl, by rw [lowF_length]; exact ho, hb⟩
      · have hp : putF n 4 = ([], 2) := by unfold putF; exact if_neg (fun h2 => h (h2.2.resolve_left (by omega)))
        have H := Lib.hid hp
        have t1 : decide (n / 4294967296 > 0) = true := by rw [decide_eq_true_eq]; omega
        have t2 : (n / 4294967296 != 0) = true := by rw [bne_iff_ne]; omega
        have t3 : szB 4 = true := by decide
        clear hp h
        go_enter Try.func52, Try.ntmps52
        go_wp2_with (fail)
        refine (rsize_any _ _).mono ?_
        rintro e w' ⟨rfl, rfl⟩
        rw [t3]
        go_wp2_with (fail)
        go_ret2
        rw [H.out]
        exact ⟨none, 0, rfl, OwnN.nil _ _ _ _, Below.refl _ _⟩
    · have hp : putF n 8 = (lowF n 8, 0) := by unfold putF; exact if_pos ⟨by decide, .inl (by omega)⟩
      have H := Lib.hid hp
      have t3 : szB 8 = true := by decide
      clear hp
      have C := Lib.hid (rlow_any n 8 w hn (by omega))
      go_enter Try.func52, Try.ntmps52
      go_wp2_with (fail)
      refine (rsize_any _ _).mono ?_
      rintro e w' ⟨rfl, rfl⟩
      rw [t3]
      go_wp2_with (fail)
      refine C.out.mono ?_
      rintro e w' ⟨A, c, rfl, ho, hb⟩
      go_wp2_with (fail)
      go_ret2
      rw [H.out]
      exact ⟨A, c, by rw [lowF_length]; rfl, by rw [lowF_length]; exact ho, hb⟩

/-- what a function is told of bytes that it is handed: they read as b, and are of a length that memory bears -/
structure Arg (w : World) (A : Option Addr) (n c : Nat) (b : List Int) : Prop where
  rd : RdN w .u8 A n b
  isB : IsB b
  cap : n ≤ c
  top : c ≤ maxLen
  len : n ≤ 140737488355328

theorem take_drop_snoc (b : List Int) (p j : Nat) (h : p + j < b.length) : (b.drop p).take (j + 1) = (b.drop p).take j ++ [b.getD (p + j) 0] := by
  have hl : j < (b.drop p).length := by rw [List.length_drop]; omega
  rw [List.take_succ_eq_append_getElem hl, List.getElem_drop, List.getD_eq_getElem?_getD, List.getElem?_eq_getElem h]
  rfl

set_option maxHeartbeats 400000 in
theorem part_any (A : Option Addr) (n c : Nat) (b : List Int) (at_ k : Int) (w : World) (hb : Arg w A n c b) (ha : -9223372036854775808 ≤ at_ ∧ at_ ≤ 9223372036854775807) (hk : -9223372036854775808 ≤ k ∧ k ≤ 9223372036854775807) :
    Calls Try.prog 43 #[.slice A n c, .int .i64 at_, .int .i64 k] w fun e w' => ∃ A' c', e = .returned (.tuple #[.slice A' (partF b at_ k).1.length c', .int .i64 (partF b at_ k).2]) ∧ OwnB w' w.heap.size A' (partF b at_ k).1.length c' (partF b at_ k).1 ∧ Below w.heap.size w w' := by
  have hl := hb.rd.len
  have hc := hb.cap
  have ht : c ≤ 9223372036854775807 := hb.top
  have hn := hb.len
  by_cases h1 : at_ < 0 ∨ (n : Int) < at_ ∨ k < 0
  · have hp : partF b at_ k = ([], 2) := by unfold partF; rw [hl]; exact if_pos h1
    have H := Lib.hid hp
    have HL := Lib.hid hl
    clear hp hl hb
    by_cases t1 : at_ < 0
    · have d1 : decide (at_ < 0) = true := decide_eq_true t1
      clear h1 t1
      go_enter Try.func43, Try.ntmps43
      go_wp2_with (fail)
      go_ret2
      rw [H.out]
      exact ⟨none, 0, rfl, OwnN.nil _ _ _ _, Below.refl _ _⟩
    · have d1 : decide (at_ < 0) = false := decide_eq_false t1
      by_cases t2 : at_ > n
      · have d2 : decide (at_ > (n : Int)) = true := decide_eq_true t2
        clear h1 t1
        go_enter Try.func43, Try.ntmps43
        go_wp2_with (fail)
        go_ret2
        rw [H.out]
        exact ⟨none, 0, rfl, OwnN.nil _ _ _ _, Below.refl _ _⟩
      · have d2 : decide (at_ > (n : Int)) = false := decide_eq_false t2
        have d3 : decide (k < 0) = true := by rw [decide_eq_true_eq]; omega
        clear h1 t1
        go_enter Try.func43, Try.ntmps43
        go_wp2_with (fail)
        go_ret2
        rw [H.out]
        exact ⟨none, 0, rfl, OwnN.nil _ _ _ _, Below.refl _ _⟩
  · have t1 : 0 ≤ at_ := by omega
    have t2 : at_ ≤ n := by omega
    have t3 : 0 ≤ k := by omega
    have d1 : decide (at_ < 0) = false := decide_eq_false (by omega)
    have d2 : decide (at_ > (n : Int)) = false := decide_eq_false (by omega)
    have d3 : decide (k < 0) = false := decide_eq_false (by omega)
    by_cases h2 : (n : Int) - at_ < k
    · have hp : partF b at_ k = ([], 4) := by unfold partF; rw [hl, if_neg h1]; exact if_pos h2
      have H := Lib.hid hp
      have HL := Lib.hid hl
      have d4 : decide (k > (n : Int) - at_) = true := by rw [decide_eq_true_eq]; omega
      clear hp hl hb h1
      go_enter Try.func43, Try.ntmps43
      go_wp2_with (fail)
      go_ret2
      rw [H.out]
      exact ⟨none, 0, rfl, OwnN.nil _ _ _ _, Below.refl _ _⟩
    · have hp : partF b at_ k = ((b.drop at_.toNat).take k.toNat, 0) := by unfold partF; rw [hl, if_neg h1, if_neg h2]
      have d4 : decide (k > (n : Int) - at_) = false := decide_eq_false (by omega)
      have t4 : k ≤ n - at_ := by omega
      obtain ⟨p, rfl⟩ := Int.eq_ofNat_of_zero_le t1
      obtain ⟨q, rfl⟩ := Int.eq_ofNat_of_zero_le t3
      have d5 : decide (n < p) = false := decide_eq_false (by omega)
      rw [Int.toNat_natCast, Int.toNat_natCast] at hp
      have hrd := hb.rd.sub (lo := p) (m := q) (by omega)
      have hlen : ((b.drop p).take q).length = q := by rw [List.length_take, List.length_drop, hl]; omega
      have H := Lib.hid (And.intro hp hlen)
      have HL := Lib.hid hl
      clear hp hl hb h1 h2 hlen
      by_cases hq : q = 0
      · subst hq
        go_enter Try.func43, Try.ntmps43
        go_wp2_with (at_builtin; refine Stop.mk ?_)
        refine Stop.out ?_
        refine wpList_appN _ rfl (.const (.slice none 0 0)) (.tmp 36) _ rfl w.heap.size 5 .u8 1 Try.underlying29 inf_b none 0 0 [] rfl (OwnN.nil _ _ _ _) A 0 0 [] rfl (RdN.nil _ _ _) (by unfold maxLen; omega) (by omega) (Nat.le_refl _) ?_
        intro A' c' w1 ho hg hA
        have hb1 : Below w.heap.size w w1 := (Below.refl _ _).grown hg (Nat.le_refl _) (fun _ h => by cases h)
        have H2 := Lib.hid (And.intro ho hb1)
        clear ho hb1 hg hA
        go_wp2_with (fail)
        go_ret2
        rw [H.out.1]
        exact ⟨A', c', rfl, H2.out.1, H2.out.2⟩
      · have hq0 : (p : Int) + q ≠ p := by omega
        go_enter Try.func43, Try.ntmps43
        go_wp2_with (at_builtin; refine Stop.mk ?_)
        refine Stop.out ?_
        refine wpList_appN _ rfl (.const (.slice none 0 0)) (.tmp 36) _ rfl w.heap.size 5 .u8 1 Try.underlying29 inf_b none 0 0 [] rfl (OwnN.nil _ _ _ _) _ (p + q - p) (p + q - p) ((b.drop p).take q) rfl (by rw [Nat.add_sub_cancel_left]; exact hrd) (by unfold maxLen; omega) (by omega) (Nat.le_refl _) ?_
        intro A' c' w1 ho hg hA
        have hb1 : Below w.heap.size w w1 := (Below.refl _ _).grown hg (Nat.le_refl _) (fun _ h => by cases h)
        rw [Nat.zero_add, List.nil_append, Nat.add_sub_cancel_left] at ho
        have H2 := Lib.hid (And.intro ho hb1)
        clear ho hb1 hg hA
        go_wp2_with (fail)
        go_ret2
        rw [H.out.1, H.out.2]
        exact ⟨A', c', by simp, H2.out.1, H2.out.2⟩
set_option maxHeartbeats 400000 in
theorem rpart_any (A : Option Addr) (n c : Nat) (b : List Int) (at_ k : Int) (w : World) (hb : Arg w A n c b) (ha : -9223372036854775808 ≤ at_ ∧ at_ ≤ 9223372036854775807) (hk : -9223372036854775808 ≤ k ∧ k ≤ 9223372036854775807) :
    Calls Try.prog 44 #[.slice A n c, .int .i64 at_, .int .i64 k] w fun e w' => ∃ A' c', e = .returned (.tuple #[.slice A' (partF b at_ k).1.length c', .int .i64 (partF b at_ k).2]) ∧ OwnB w' w.heap.size A' (partF b at_ k).1.length c' (partF b at_ k).1 ∧ Below w.heap.size w w' := by
  have hl := hb.rd.len
  have hc := hb.cap
  have ht : c ≤ 9223372036854775807 := hb.top
  have hn := hb.len
  by_cases h1 : at_ < 0 ∨ (n : Int) < at_ ∨ k < 0
  · have hp : partF b at_ k = ([], 2) := by unfold partF; rw [hl]; exact if_pos h1
    have H := Lib.hid hp
    have HL := Lib.hid hl
    clear hp hl hb
    by_cases t1 : at_ < 0
    · have d1 : decide (at_ < 0) = true := decide_eq_true t1
      clear h1 t1
      go_enter Try.func44, Try.ntmps44
      go_wp2_with (fail)
      go_ret2
      rw [H.out]
      exact ⟨none, 0, rfl, OwnN.nil _ _ _ _, Below.refl _ _⟩
    · have d1 : decide (at_ < 0) = false := decide_eq_false t1
      by_cases t2 : at_ > n
      · have d2 : decide (at_ > (n : Int)) = true := decide_eq_true t2
        clear h1 t1
        go_enter Try.func44, Try.ntmps44
        go_wp2_with (fail)
        go_ret2
        rw [H.out]
        exact ⟨none, 0, rfl, OwnN.nil _ _ _ _, Below.refl _ _⟩
      · have d2 : decide (at_ > (n : Int)) = false := decide_eq_false t2
        have d3 : decide (k < 0) = true := by rw [decide_eq_true_eq]; omega
        clear h1 t1
        go_enter Try.func44, Try.ntmps44
        go_wp2_with (fail)
        go_ret2
        rw [H.out]
        exact ⟨none, 0, rfl, OwnN.nil _ _ _ _, Below.refl _ _⟩
  · have t1 : 0 ≤ at_ := by omega
    have t2 : at_ ≤ n := by omega
    have t3 : 0 ≤ k := by omega
    have d1 : decide (at_ < 0) = false := decide_eq_false (by omega)
    have d2 : decide (at_ > (n : Int)) = false := decide_eq_false (by omega)
    have d3 : decide (k < 0) = false := decide_eq_false (by omega)
    by_cases h2 : (n : Int) - at_ < k
    · have hp : partF b at_ k = ([], 4) := by unfold partF; rw [hl, if_neg h1]; exact if_pos h2
      have H := Lib.hid hp
      have HL := Lib.hid hl
      have d4 : decide (k > (n : Int) - at_) = true := by rw [decide_eq_true_eq]; omega
      clear hp hl hb h1
      go_enter Try.func44, Try.ntmps44
      go_wp2_with (fail)
      go_ret2
      rw [H.out]
      exact ⟨none, 0, rfl, OwnN.nil _ _ _ _, Below.refl _ _⟩
    · have hp : partF b at_ k = ((b.drop at_.toNat).take k.toNat, 0) := by unfold partF; rw [hl, if_neg h1, if_neg h2]
      have d4 : decide (k > (n : Int) - at_) = false := decide_eq_false (by omega)
      have t4 : k ≤ n - at_ := by omega
      obtain ⟨p, rfl⟩ := Int.eq_ofNat_of_zero_le t1
      obtain ⟨q, rfl⟩ := Int.eq_ofNat_of_zero_le t3
      have d5 : decide (n < p) = false := decide_eq_false (by omega)
      rw [Int.toNat_natCast, Int.toNat_natCast] at hp
      have hrd0 := hb.rd
      have hlen : ((b.drop p).take q).length = q := by rw [List.length_take, List.length_drop, hl]; omega
      have H := Lib.hid (And.intro hp hlen)
      have HL := Lib.hid hl
      clear hp hl hb h1 h2 hlen
      have hA := hrd0
      go_enter Try.func44, Try.ntmps44
      go_wp2_with (fail)
      go_loopw [8, 9] (fun l i wr => ∃ j : Nat, j ≤ q ∧ i = .int .i64 j ∧ ∃ A' c', l = .slice A' j c' ∧ OwnB wr w.heap.size A' j c' ((b.drop p).take j) ∧ Below w.heap.size w wr) (fun _ i _ => q - (intOf i).toNat)
      case atStart => exact ⟨0, by omega, rfl, none, 0, rfl, OwnN.nil _ _ _ _, Below.refl _ _⟩
      case round =>
        obtain ⟨j, hj, rfl, A', c', rfl, ho, hbel⟩ := hrel
        by_cases hlt : j < q
        · obtain ⟨ad, rfl, hbk, hc0⟩ := hA.at_ (show p + j < n by omega)
          have hc1 : wr.cell? (ad.add (p + j)) = some (.int .u8 (b.getD (p + j) 0)) := (hbel.cell (by rw [block_add]; exact hbk)).trans hc0
          have hsn := take_drop_snoc b p j (by rw [HL.out]; omega)
          have SN := Lib.hid hsn
          have hz := hbel.size
          clear hc0 hsn
          generalize b.getD (p + j) 0 = x at *
          go_wp2_with (at_builtin; refine Stop.mk ?_)
          refine Stop.out ?_
          refine wpList_appN _ rfl (.tmp 33) (.tmp 40) _ rfl w.heap.size 5 .u8 1 Try.underlying29 inf_b A' j c' _ rfl (ho.alloc _) (some ⟨wr.heap.size, 0, none⟩) 1 1 [x] rfl
            (OwnN.lit (base := 0) (e := 5) (k := .u8) wr [x] 1 (Nat.zero_le _) (by decide) rfl).rd (by unfold maxLen; omega) (by omega) (by simp; omega) ?_
          intro A2 c2 w1 ho2 hg hA2
          have hb1 : Below w.heap.size w w1 := (hbel.alloc hbel.size _).grown hg (by simp; omega) (fun g hg => (ho.lt g hg).1)
          rw [← SN.out] at ho2
          have H2 := Lib.hid (And.intro ho2 hb1)
          clear ho2 hb1 hg hA2 ho hbel
          go_wp2_with (fail)
          go_roundw
          case rel => exact ⟨j + 1, by omega, by go_num, A2, c2, rfl, H2.out.1, H2.out.2⟩
          case measure => simp [intOf]; omega
        · obtain rfl : j = q := by omega
          have H2 := Lib.hid (And.intro ho hbel)
          clear ho hbel
          go_wp2_with (fail)
          go_ret2
          rw [H.out.1, H.out.2]
          exact ⟨A', c', rfl, H2.out.1, H2.out.2⟩

end Go.Proofs.Ytejablcdpakgoaa
