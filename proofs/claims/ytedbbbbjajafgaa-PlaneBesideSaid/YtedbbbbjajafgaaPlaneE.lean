/- What the statements' own helpers of layer 5 answer: small, spot, lives. -/
import Derived.Test.YtedbbbbjajafgaaPlaneD
namespace Go.Proofs.Ytedbbbbjajafgaa
open Go.RowKit Go.Proofs Fl
set_option linter.unusedVariables false
set_option linter.unusedSimpArgs false

theorem nearest_fl {a : Int} (h : Sw a) : floatOfInt .f64 a = fl a := nearest_int a (by unfold Sw at h; omega)

theorem small_any (a b : Int) (w : World) (ha : -2147483648 ≤ a ∧ a ≤ 2147483647) (hb : -2147483648 ≤ b ∧ b ≤ 2147483647) :
    Calls Try.prog 9 #[.int .i32 a, .int .i32 b] w fun e w' => e = .returned (.agg #[.int .i64 (a.tmod 8388608), .int .i64 (b.tmod 8388608)]) ∧ Below w.heap.size w w' := by
  go_enter Try.func9, Try.ntmps9
  go_wp2
  refine bodyPost_ret (v := .agg #[.int .i64 (a.tmod 8388608), .int .i64 (b.tmod 8388608)]) (by simp [results, Try.results9, go_sem]) rfl ⟨rfl, ?_⟩
  exact (Below.refl _ _).alloc (Nat.le_refl _) _

theorem spot_any (a b : Int) (w : World) (ha : Sw a) (hb : Sw b) :
    Calls Try.prog 11 #[.agg #[.int .i64 a, .int .i64 b]] w fun e w' => e = .returned (.complex .f64 (fl a) (fl b)) ∧ Below w.heap.size w w' := by
  have h1 := nearest_fl ha
  have h2 := nearest_fl hb
  go_enter Try.func11, Try.ntmps11
  go_wp2
  go_ret
  exact ⟨rfl, (Below.refl _ _).alloc (Nat.le_refl _) _⟩

theorem fl_mone : fl (-1) = 13830554455654793216 := fz_mone

set_option maxRecDepth 100000 in
set_option maxHeartbeats 400000 in
theorem lives_any (w : World) : Calls Try.prog 15 #[] w fun e w' => e = .returned (.bool true) ∧ w = w' := by
  have hv : Pl.ofF 2 = ((-1, 1), 0) := by decide +kernel
  have hb : Pl.backF (-1, 0) = (29, 0) := by decide +kernel
  have hl : Pl.ofF 1099511627776 = ((0, 0), 3) := by decide +kernel
  have ht : Pl.turnF (1, 0) (-1) = (0, -1) := by decide +kernel
  have s0 : Sw 0 := Sw.of (by omega) (by omega)
  have s1 : Sw 1 := Sw.of (by omega) (by omega)
  have sm : Sw (-1) := Sw.of (by omega) (by omega)
  have o1 := ord_eq (s := false) (t := false) (m := 256 * -1) (n := 256 * -1) sm.sm sm.sm
  have o2 := ord_eq (s := false) (t := false) (m := 256 * 1) (n := 256 * 1) s1.sm s1.sm
  have o3 := ord_eq (s := false) (t := false) (m := 256 * 0) (n := 256 * 0) s0.sm s0.sm
  change (FloatKind.f64.format.order (fl (-1)) (fl (-1)) == some Ordering.eq) = _ at o1
  change (FloatKind.f64.format.order (fl 1) (fl 1) == some Ordering.eq) = _ at o2
  change (FloatKind.f64.format.order (fl 0) (fl 0) == some Ordering.eq) = _ at o3
  have c1 := of_any 2 w
  rw [hv] at c1
  have c2 := back_any (-1, 0) w ⟨sm, s0⟩
  rw [hb] at c2
  have c3 := of_any 1099511627776 w
  rw [hl] at c3
  have c4 := back_no 128 0 w (Sm.of (by omega) (by omega)) (Sm.of (by omega) (by omega)) (by decide +kernel)
  have c5 := turn_any 1 0 (-1) w s1 s0 (by omega) (by omega)
  rw [ht] at c5
  simp only [fl_mone, fl_nought, fl_one, fz_half, fz_nought, decide_true] at c1 c2 c3 c4 c5 o1 o2 o3
  have C := Lib.hid (And.intro c1 (And.intro c2 (And.intro c3 (And.intro c4 c5))))
  clear c1 c2 c3 c4 c5 hv hb hl ht
  go_enter Try.func15, Try.ntmps15
  go_wp2_with (fail)
  refine C.out.1.mono ?_
  rintro e w' ⟨rfl, rfl⟩
  go_wp2_with (fail)
  refine C.out.2.1.mono ?_
  rintro e w' ⟨rfl, rfl⟩
  go_wp2_with (fail)
  refine C.out.2.2.1.mono ?_
  rintro e w' ⟨rfl, rfl⟩
  go_wp2_with (fail)
  refine C.out.2.2.2.1.mono ?_
  rintro e w' ⟨rfl, rfl⟩
  go_wp2_with (fail)
  refine C.out.2.2.2.2.mono ?_
  rintro e w' ⟨rfl, rfl⟩
  go_wp2_with (fail)
  go_ret
  exact ⟨rfl, rfl⟩

theorem sw_tmod (a : Int) : Sw (a.tmod 8388608) := by
  have h1 := Int.lt_tmod_of_pos a (show (0 : Int) < 8388608 by omega)
  have h2 := Int.tmod_lt_of_pos a (show (0 : Int) < 8388608 by omega)
  exact Sw.of (by omega) (by omega)
end Go.Proofs.Ytedbbbbjajafgaa
