/- The statements' 'works' of layer 1. -/
import Derived.Test.YtpbnodomopdjhaaEndsF
import Derived.Test.YtpbnodomopdjhaaSame
namespace Go.Proofs.Ytpbnodomopdjhaa
open Go.RowKit Go.Proofs En
set_option linter.unusedVariables false
set_option linter.unusedSimpArgs false

theorem put_is {n m : Int} {p : List Int} {q : Int} (w : World) (hn : 0 ≤ n ∧ n < 18446744073709551616) (h : putF n m = (p, q)) :
    Calls Try.prog 13 #[.int .u64 n, .int .i64 m] w fun e w' => ∃ A c, e = .returned (.tuple #[.slice A p.length c, .int .i64 q]) ∧ OwnB w' w.heap.size A p.length c p ∧ Below w.heap.size w w' := by
  have C := put_any n m w hn
  rw [h] at C
  exact C
theorem get_is {A : Option Addr} {n c : Nat} {b : List Int} {at_ k v q : Int} {w : World} (hb : Arg w A n c b) (ha : -9223372036854775808 ≤ at_ ∧ at_ ≤ 9223372036854775807) (hk : -9223372036854775808 ≤ k ∧ k ≤ 9223372036854775807) (h : getF b at_ k = (v, q)) :
    Calls Try.prog 15 #[.slice A n c, .int .i64 at_, .int .i64 k] w fun e w' => e = .returned (.tuple #[.int .u64 v, .int .i64 q]) ∧ Below w.heap.size w w' := by
  have C := get_any A n c b at_ k w hb ha hk
  rw [h] at C
  exact C
theorem getCount_is {A : Option Addr} {n c : Nat} {b : List Int} {at_ v x q : Int} {w : World} (hb : Arg w A n c b) (ha : -9223372036854775808 ≤ at_ ∧ at_ ≤ 9223372036854775807) (h : getCountF b at_ = (v, x, q)) :
    Calls Try.prog 21 #[.slice A n c, .int .i64 at_] w fun e w' => e = .returned (.tuple #[.int .u64 v, .int .i64 x, .int .i64 q]) ∧ Below w.heap.size w w' := by
  have C := getCount_any A n c b at_ w hb ha
  rw [h] at C
  exact C
theorem getRow_is {A : Option Addr} {n c : Nat} {b : List Int} {at_ most x q : Int} {p : List Int} {w : World} (hb : Arg w A n c b) (ha : -9223372036854775808 ≤ at_ ∧ at_ ≤ 9223372036854775807) (hm : -9223372036854775808 ≤ most ∧ most ≤ 9223372036854775807) (h : getRowF b at_ most = (p, x, q)) :
    Calls Try.prog 24 #[.slice A n c, .int .i64 at_, .int .i64 most] w fun e w' => ∃ A' c', e = .returned (.tuple #[.slice A' p.length c', .int .i64 x, .int .i64 q]) ∧ OwnB w' w.heap.size A' p.length c' p ∧ Below w.heap.size w w' := by
  have C := getRow_any A n c b at_ most w hb ha hm
  rw [h] at C
  exact C
theorem count_is {n : Int} {p : List Int} (w : World) (hn : 0 ≤ n ∧ n < 18446744073709551616) (h : countF n = p) :
    Calls Try.prog 22 #[.int .u64 n] w fun e w' => ∃ A c, e = .returned (.slice A p.length c) ∧ OwnB w' w.heap.size A p.length c p ∧ Below w.heap.size w w' := by
  have C := count_any n w hn
  rw [h] at C
  exact C
theorem same_is {A : Option Addr} {n c : Nat} {xs : List Int} {B : Option Addr} {m d : Nat} {ys : List Int} {w : World} {r : Bool} (hA : RdN w .u8 A n xs) (hB : RdN w .u8 B m ys) (hn : n ≤ 9223372036854775807) (h : decide (xs = ys) = r) :
    Calls Try.prog 19 #[.slice A n c, .slice B m d] w fun e w' => e = .returned (.bool r) ∧ Below w.heap.size w w' := by
  have C := same_any A n c xs B m d ys w hA hB hn
  rw [h] at C
  exact C
/-- bytes that a literal lays -/
theorem arg_lit (w : World) (xs : List Int) (m : Nat) (hl : m ≤ 140737488355328) (hs : xs.length = m) (hB : IsB xs) : Arg (w.alloc (.cells (ns .u8 xs).toArray 5)) (some ⟨w.heap.size, 0, none⟩) m m xs :=
  ⟨(OwnN.lit (base := 0) (e := 5) (k := .u8) w xs m (Nat.zero_le _) (by unfold maxLen; omega) hs).rd, hB, Nat.le_refl _, by unfold maxLen; omega, hl⟩
theorem rd_lit (w : World) (xs : List Int) (m : Nat) (hl : m ≤ 140737488355328) (hs : xs.length = m) : RdN (w.alloc (.cells (ns .u8 xs).toArray 5)) .u8 (some ⟨w.heap.size, 0, none⟩) m xs :=
  (OwnN.lit (base := 0) (e := 5) (k := .u8) w xs m (Nat.zero_le _) (by unfold maxLen; omega) hs).rd
theorem isB_dec {xs : List Int} (h : xs.all (fun x => decide (0 ≤ x ∧ x ≤ 255)) = true) : IsB xs := by
  intro x hx
  have := List.all_eq_true.1 h x hx
  exact of_decide_eq_true this
theorem belA {B : Nat} {a w : World} (h : Below B a w) (o : Obj) (hB : B ≤ a.heap.size) : Below B a (w.alloc o) := h.alloc (Nat.le_trans hB h.size) o

set_option maxHeartbeats 800000 in
theorem works01_any (w : World) :
    Calls Try.prog 20 #[] w fun e w' => e = .returned (.bool true) ∧ Below w.heap.size w w' := by
  go_enter Try.func20, Try.ntmps20
  go_wp2_with (fail)
  refine (put_is (n := 258) (m := 2) (p := [2, 1]) (q := 0) _ (by omega) (by decide)).mono ?_
  rintro e w1 ⟨A1, c1, rfl, ho1, hb1⟩
  have hr1 : RdN w1 .u8 A1 2 [2, 1] := ho1.rd
  clear ho1
  have hz1 := hb1.size
  go_wp2_with (fail)
  refine (put_is (n := 256) (m := 1) (p := []) (q := 2) _ (by omega) (by decide)).mono ?_
  rintro e w2 ⟨A2, c2, rfl, ho2, hb2⟩
  clear ho2
  have hr2 := hr1.below hb2
  have hbl2 := bThen hb1 hb2
  clear hr1 hb1 hb2 hz1
  have hz := hbl2.size
  go_wp2_with (fail)
  refine (get_is (b := [2, 1, 5]) (v := 258) (q := 0) (arg_lit w2 [2, 1, 5] 3 (by omega) rfl (isB_dec (by decide))) (by omega) (by omega) (by decide)).mono ?_
  rintro e w3 ⟨rfl, hb3⟩
  have hr3 := (hr2.alloc _).below hb3
  have hbl3 := (belA hbl2 _ (Nat.le_refl _)).trans (hb3.mono (by simp; omega))
  clear hr2 hbl2 hb3 hz
  have hz := hbl3.size
  go_wp2_with (fail)
  refine (getCount_is (b := [253, 5, 0]) (v := 0) (x := 0) (q := 5) (arg_lit w3 [253, 5, 0] 3 (by omega) rfl (isB_dec (by decide))) (by omega) (by decide)).mono ?_
  rintro e w4 ⟨rfl, hb4⟩
  have hr4 := (hr3.alloc _).below hb4
  have hbl4 := (belA hbl3 _ (Nat.le_refl _)).trans (hb4.mono (by simp; omega))
  clear hr3 hbl3 hb4 hz
  have hz := hbl4.size
  go_wp2_with (fail)
  refine (getRow_is (b := [2, 7, 8]) (p := [7, 8]) (x := 3) (q := 0) (arg_lit w4 [2, 7, 8] 3 (by omega) rfl (isB_dec (by decide))) (by omega) (by omega) (by decide)).mono ?_
  rintro e w5 ⟨A5, c5, rfl, ho5, hb5⟩
  have hr5 := (hr4.alloc _).below hb5
  have hs5 : RdN w5 .u8 A5 2 [7, 8] := ho5.rd
  have hbl5 := (belA hbl4 _ (Nat.le_refl _)).trans (hb5.mono (by simp; omega))
  clear hr4 hbl4 hb5 hz ho5
  have hz := hbl5.size
  go_wp2_with (fail)
  refine (same_is (r := true) (hr5.alloc _) (rd_lit w5 [2, 1] 2 (by omega) rfl) (by omega) (by decide)).mono ?_
  rintro e w6 ⟨rfl, hb6⟩
  have hs6 := (hs5.alloc _).below hb6
  have hbl6 := (belA hbl5 _ (Nat.le_refl _)).trans (hb6.mono (by simp; omega))
  clear hr5 hbl5 hb6 hz hs5
  have hz := hbl6.size
  go_wp2_with (fail)
  refine (same_is (r := true) (hs6.alloc _) (rd_lit w6 [7, 8] 2 (by omega) rfl) (by omega) (by decide)).mono ?_
  rintro e w7 ⟨rfl, hb7⟩
  have hbl7 := (belA hbl6 _ (Nat.le_refl _)).trans (hb7.mono (by simp; omega))
  clear hs6 hbl6 hb7 hz
  have hz := hbl7.size
  go_wp2_with (fail)
  refine (count_is (p := [253, 253, 0]) _ (by omega) (by decide)).mono ?_
  rintro e w8 ⟨A8, c8, rfl, ho8, hb8⟩
  have hs8 : RdN w8 .u8 A8 3 [253, 253, 0] := ho8.rd
  have hbl8 := bThen hbl7 hb8
  clear hbl7 hb8 hz ho8
  have hz := hbl8.size
  go_wp2_with (fail)
  refine (same_is (r := true) (hs8.alloc _) (rd_lit w8 [253, 253, 0] 3 (by omega) rfl) (by omega) (by decide)).mono ?_
  rintro e w9 ⟨rfl, hb9⟩
  have hbl9 := (belA hbl8 _ (Nat.le_refl _)).trans (hb9.mono (by simp; omega))
  clear hbl8 hb9 hz
  have hz := hbl9.size
  go_wp2_with (fail)
  go_ret
  exact ⟨rfl, hbl9⟩
end Go.Proofs.Ytpbnodomopdjhaa
