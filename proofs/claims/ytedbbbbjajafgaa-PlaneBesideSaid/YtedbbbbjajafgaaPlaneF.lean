/- The walks of the statements of layer 5. -/
import Derived.Test.YtedbbbbjajafgaaPlaneE
import Derived.Deep.RegionWith
import Derived.Deep.RegionHeld3
namespace Go.Proofs.Ytedbbbbjajafgaa
open Go.RowKit Go.Proofs Fl
set_option linter.unusedVariables false
set_option linter.unusedSimpArgs false

theorem tw_sw (q : Int) {z : Int × Int} (h : Sw z.1 ∧ Sw z.2) : Sw (Pl.turnF z q).1 ∧ Sw (Pl.turnF z q).2 := by
  rw [← rotN_turn]; exact rotN_sw _ h

theorem bdN {B : Nat} {a w : World} (h : Below B a w) (n : Nat) : Below B a (w.drewN n) := ⟨h.os, h.tape, h.output, h.size, h.block⟩

theorem fl_eq {a b : Int} (ha : Sw a) (hb : Sw b) : (FloatKind.f64.format.order (fl a) (fl b) == some Ordering.eq) = decide (a = b) := by
  have h := ord_eq (s := false) (t := false) ha.sm hb.sm
  rw [show (decide (a = b)) = decide (256 * a = 256 * b) from decide_eq_decide.2 (by omega)]
  exact h
theorem fl_self {a : Int} (ha : Sw a) : (FloatKind.f64.format.order (fl a) (fl a) == some Ordering.eq) = true := by
  rw [fl_eq ha ha]; exact decide_eq_true rfl

theorem keepB {w0 w w' : World} {b : Nat} {u v : Value} (h : w.cell? ⟨b, 0, none⟩ = some u ∧ w.cell? ⟨b, 1, none⟩ = some v ∧ b < w.heap.size ∧ Below w0.heap.size w0 w) (hb : Below w.heap.size w w') :
    w'.cell? ⟨b, 0, none⟩ = some u ∧ w'.cell? ⟨b, 1, none⟩ = some v ∧ b < w'.heap.size ∧ Below w0.heap.size w0 w' :=
  ⟨(hb.cell h.2.2.1).trans h.1, (hb.cell h.2.2.1).trans h.2.1, Nat.lt_of_lt_of_le h.2.2.1 hb.size, h.2.2.2.trans (hb.mono h.2.2.2.size)⟩

set_option maxRecDepth 100000 in
set_option maxHeartbeats 1000000 in
theorem planeBack_walk (a b q : Int) (w : World) (ha : -2147483648 ≤ a ∧ a ≤ 2147483647) (hb : -2147483648 ≤ b ∧ b ≤ 2147483647) (hq : -9223372036854775808 ≤ q ∧ q ≤ 9223372036854775807) :
    Calls Try.prog 3 #[.int .i32 a, .int .i32 b, .int .i64 q] w fun e w' => e = .returned (.bool true) ∧ Below w.heap.size w w' := by
  have hsa := sw_tmod a
  have hsb := sw_tmod b
  have C1 := Lib.hid (And.intro ha hb)
  go_enter Try.func3, Try.ntmps3
  go_wp2_with (fail)
  refine (small_any a b _ C1.out.1 C1.out.2).mono ?_
  rintro e w1 ⟨rfl, hb1⟩
  generalize a.tmod 8388608 = x at *
  generalize b.tmod 8388608 = y at *
  go_wp2_with (fail)
  refine (spot_any x y _ hsa hsb).mono ?_
  rintro e w2 ⟨rfl, hb2⟩
  go_wp2_with (fail)
  refine (back_any (x, y) _ ⟨hsa, hsb⟩).mono ?_
  rintro e w3 ⟨rfl, rfl⟩
  have hsz := hb2.size
  have hc0 : w2.cell? ⟨w1.heap.size, 0, none⟩ = some (.int .i64 x) := by
    rw [hb2.cell (by simp)]; simp
  have hc1 : w2.cell? ⟨w1.heap.size, 1, none⟩ = some (.int .i64 y) := by
    rw [hb2.cell (by simp)]; simp
  go_wp2_with (fail)
  refine (rback_any (x, y) _).mono ?_
  rintro e w3 ⟨rfl, hb3⟩
  have hz3 : w1.heap.size < w3.heap.size := by have := hb2.size; have := hb3.size; simp at *; omega
  have hd0 : w3.cell? ⟨w1.heap.size, 0, none⟩ = some (.int .i64 x) := by rw [hb3.cell (by simp at *; omega)]; exact hc0
  have hd1 : w3.cell? ⟨w1.heap.size, 1, none⟩ = some (.int .i64 y) := by rw [hb3.cell (by simp at *; omega)]; exact hc1
  have hbw : Below w.heap.size w w3 := ((hb1.alloc hb1.size _).trans (hb2.mono (by have := hb1.size; simp; omega))).trans (hb3.mono (by have := hb1.size; simp at *; omega))
  have htw := tw_sw q (z := (x, y)) ⟨hsa, hsb⟩
  have o1 := fl_self htw.1
  have o2 := fl_self htw.2
  have C2 := Lib.hid (And.intro hsa (And.intro hsb (And.intro htw hq)))
  have e1 : (((Pl.backF (x, y)).1 : Int) == ((Pl.backF (x, y)).1 : Int)) = true := beq_self_eq_true _
  have e2 : ((Pl.backF (x, y)).2 == (Pl.backF (x, y)).2) = true := beq_self_eq_true _
  clear hc0 hc1 hb1 hb2 hb3 hsz htw hsa hsb hq
  generalize (Pl.backF (x, y)).1 = n at *
  generalize (Pl.backF (x, y)).2 = m at *
  go_wp2_with (fail)
  go_region_held3 (fun w' => w'.cell? ⟨w1.heap.size, 0, none⟩ = some (.int .i64 x) ∧ w'.cell? ⟨w1.heap.size, 1, none⟩ = some (.int .i64 y) ∧ w1.heap.size < w'.heap.size ∧ Below w.heap.size w w') (first | exact ⟨hd0, hd1, hz3, hbw.drew⟩ | assumption | exact keepB ‹_› hbn)
    (first
     | (go_at_call_of 11 (Value.agg #[Value.int .i64 x, Value.int .i64 y]); refine (spot_any x y _ C2.out.1 C2.out.2.1).mono ?_; rintro e w' ⟨rfl, hbn⟩)
     | (go_at_call 11; refine (spot_any _ _ _ C2.out.2.2.1.1 C2.out.2.2.1.2).mono ?_; rintro e w' ⟨rfl, hbn⟩)
     | (go_at_call 13; refine (turn_any x y q _ C2.out.1 C2.out.2.1 C2.out.2.2.2.1 C2.out.2.2.2.2).mono ?_; rintro e w' ⟨rfl, rfl⟩)
     | (go_at_call 14; refine (rturn_any (x, y) q _ ⟨C2.out.1, C2.out.2.1⟩).mono ?_; rintro e w' ⟨rfl, hbn⟩)
     | (go_at_call 15; refine (lives_any _).mono ?_; rintro e w' ⟨rfl, rfl⟩))
  go_wp2
  go_ret
  rename_i hh
  exact ⟨rfl, hh.2.2.2⟩

theorem v_sw (n : Nat) : Sw (Pl.V n 40).1 ∧ Sw (Pl.V n 40).2 := sw_of_inr (Pl.V_inr n 40 (by omega))

set_option maxRecDepth 100000 in
set_option maxHeartbeats 1000000 in
theorem planeOnce_walk (n m : Nat) (w : World) (hn : n ≤ 18446744073709551615) (hm : m ≤ 18446744073709551615) :
    Calls Try.prog 4 #[.int .u64 n, .int .u64 m] w fun e w' => e = .returned (.bool true) ∧ Below w.heap.size w w' := by
  obtain ⟨x, hx⟩ : ∃ x, x = n % 1099511627776 := ⟨_, rfl⟩
  obtain ⟨y, hy⟩ : ∃ y, y = m % 1099511627776 := ⟨_, rfl⟩
  have ex : (n : Int) % 1099511627776 = (x : Int) := by omega
  have ey : (m : Int) % 1099511627776 = (y : Int) := by omega
  have hxl : x < 1099511627776 := by omega
  have hyl : y < 1099511627776 := by omega
  clear hx hy
  have vx := v_sw x
  have vy := v_sw y
  have c1 := fun w => of_small x w hxl
  have c2 := fun w => of_small y w hyl
  have c3 := fun w => back_any (Pl.V x 40) w vx
  rw [Pl.back_of x hxl] at c3
  have f1 := fl_eq vx.1 vy.1
  have f2 := fl_eq vx.2 vy.2
  have bx : ((x : Int) == (x : Int)) = true := beq_self_eq_true _
  have C := Lib.hid (And.intro c1 (And.intro c2 c3))
  have X := Lib.hid (And.intro ex ey)
  clear c1 c2 c3 vx vy hn hm
  by_cases hxy : x = y
  · subst hxy
    rw [decide_eq_true rfl] at f1 f2
    clear hyl hxl ex ey
    generalize Pl.V x 40 = v at *
    have ex := X.out.1
    have ey := X.out.2
    go_enter Try.func4, Try.ntmps4
    go_wp2_with (fail)
    refine (C.out.1 _).mono ?_
    rintro e w' ⟨rfl, rfl⟩
    go_wp2_with (fail)
    refine (C.out.2.1 _).mono ?_
    rintro e w' ⟨rfl, rfl⟩
    go_wp2_with (fail)
    refine (C.out.2.2 _).mono ?_
    rintro e w' ⟨rfl, rfl⟩
    go_wp2_with (fail)
    refine (lives_any _).mono ?_
    rintro e w' ⟨rfl, rfl⟩
    go_wp2_with (fail)
    go_ret
    exact ⟨rfl, Below.refl _ _⟩
  · have hne : ¬ ((Pl.V x 40).1 = (Pl.V y 40).1 ∧ (Pl.V x 40).2 = (Pl.V y 40).2) := by
      intro h
      exact hxy (Pl.V_inj x y hxl hyl (Prod.ext h.1 h.2))
    have bxy : ((x : Int) == (y : Int)) = false := by rw [beq_eq_false_iff_ne]; omega
    clear hxl hyl hxy ex ey
    generalize Pl.V x 40 = v at *
    generalize Pl.V y 40 = u at *
    by_cases h1 : v.1 = u.1
    · have h2 : ¬ v.2 = u.2 := fun h => hne ⟨h1, h⟩
      rw [decide_eq_true h1] at f1
      rw [decide_eq_false h2] at f2
      clear h1 h2 hne
      have ex := X.out.1
      have ey := X.out.2
      go_enter Try.func4, Try.ntmps4
      go_wp2_with (fail)
      refine (C.out.1 _).mono ?_
      rintro e w' ⟨rfl, rfl⟩
      go_wp2_with (fail)
      refine (C.out.2.1 _).mono ?_
      rintro e w' ⟨rfl, rfl⟩
      go_wp2_with (fail)
      refine (C.out.2.2 _).mono ?_
      rintro e w' ⟨rfl, rfl⟩
      go_wp2_with (fail)
      refine (lives_any _).mono ?_
      rintro e w' ⟨rfl, rfl⟩
      go_wp2_with (fail)
      go_ret
      exact ⟨rfl, Below.refl _ _⟩
    · rw [decide_eq_false h1] at f1
      clear h1 hne f2
      have ex := X.out.1
      have ey := X.out.2
      go_enter Try.func4, Try.ntmps4
      go_wp2_with (fail)
      refine (C.out.1 _).mono ?_
      rintro e w' ⟨rfl, rfl⟩
      go_wp2_with (fail)
      refine (C.out.2.1 _).mono ?_
      rintro e w' ⟨rfl, rfl⟩
      go_wp2_with (fail)
      refine (C.out.2.2 _).mono ?_
      rintro e w' ⟨rfl, rfl⟩
      go_wp2_with (fail)
      refine (lives_any _).mono ?_
      rintro e w' ⟨rfl, rfl⟩
      go_wp2_with (fail)
      go_ret
      exact ⟨rfl, Below.refl _ _⟩

set_option maxRecDepth 100000 in
set_option maxHeartbeats 1000000 in
theorem planeAll_walk (a b : Int) (w : World) (ha : -2147483648 ≤ a ∧ a ≤ 2147483647) (hb : -2147483648 ≤ b ∧ b ≤ 2147483647) :
    Calls Try.prog 5 #[.int .i32 a, .int .i32 b] w fun e w' => e = .returned (.bool true) ∧ Below w.heap.size w w' := by
  have hsa := sw_tmod a
  have hsb := sw_tmod b
  have C1 := Lib.hid (And.intro ha hb)
  go_enter Try.func5, Try.ntmps5
  go_wp2_with (fail)
  refine (small_any a b _ C1.out.1 C1.out.2).mono ?_
  rintro e w1 ⟨rfl, hb1⟩
  generalize a.tmod 8388608 = x at *
  generalize b.tmod 8388608 = y at *
  go_wp2_with (fail)
  refine (spot_any x y _ hsa hsb).mono ?_
  rintro e w2 ⟨rfl, hb2⟩
  have hB : Below w.heap.size w w2 := hb1.trans (hb2.mono hb1.size)
  go_wp2_with (fail)
  refine (back_any (x, y) _ ⟨hsa, hsb⟩).mono ?_
  rintro e w3 ⟨rfl, rfl⟩
  rcases Pl.back_err (x, y) with h0 | ⟨h0, h1⟩
  · obtain ⟨n, hn⟩ : ∃ n, Pl.backF (x, y) = (n, 0) := ⟨(Pl.backF (x, y)).1, Prod.ext rfl h0⟩
    obtain ⟨hl, hv⟩ := Pl.of_back (x, y) n hn
    rw [hn]
    have c := fun w => of_small n w hl
    rw [hv] at c
    have C := Lib.hid c
    have o1 := fl_self hsa
    have o2 := fl_self hsb
    clear h0 hn hl hv c
    go_wp2_with (fail)
    refine (C.out _).mono ?_
    rintro e w' ⟨rfl, rfl⟩
    go_wp2_with (fail)
    refine (lives_any _).mono ?_
    rintro e w' ⟨rfl, rfl⟩
    go_wp2_with (fail)
    go_ret
    exact ⟨rfl, hB⟩
  · have t0 : ((Pl.backF (x, y)).2 != 0) = true := bne_iff_ne.2 h0
    rw [h1]
    clear h0 h1
    go_wp2_with (fail)
    refine (lives_any _).mono ?_
    rintro e w' ⟨rfl, rfl⟩
    go_wp2_with (fail)
    go_ret
    exact ⟨rfl, hB⟩

theorem run_add_fl {P : Program} (w : World) (T : TypeId) {a b : Int} (ha : Sw a) (hb : Sw b) : (binOp .add T (.float .f64 (fl a)) (.float .f64 (fl b))).run P w = .ok (.float .f64 (fl (a + b))) w := by
  have h := run_add_fz (P := P) w T (s := false) (t := false) ha.sm hb.sm
  have e : fz (sg false (256 * a) && sg false (256 * b)) (256 * a + 256 * b) = fl (a + b) := by
    unfold fl
    rw [Int.mul_add]
    by_cases h0 : 256 * a + 256 * b = 0
    · by_cases ha0 : a = 0
      · subst ha0; rfl
      · by_cases hl : a < 0
        · rw [sg_of_pos (m := 256 * b) (by omega), Bool.and_false]
        · rw [sg_of_pos (m := 256 * a) (by omega), Bool.false_and]
    · exact fz_any h0
  rw [e] at h; exact h

theorem wholeB_odd {m : Int} (h : m % 256 ≠ 0) : wholeB m = false := by
  unfold wholeB
  have : ¬ m = 256 * m.tdiv 256 := by omega
  rw [decide_eq_false this, Bool.false_and]

theorem fz_256 : fz false 65536 = 4643211215818981376 := by decide +kernel

set_option maxRecDepth 100000 in
set_option maxHeartbeats 1000000 in
theorem planeParts_walk (a b d : Int) (w : World) (ha : -2147483648 ≤ a ∧ a ≤ 2147483647) (hb : -2147483648 ≤ b ∧ b ≤ 2147483647) (hd : 0 ≤ d ∧ d ≤ 255) :
    Calls Try.prog 6 #[.int .i32 a, .int .i32 b, .int .u8 d] w fun e w' => e = .returned (.bool true) ∧ Below w.heap.size w w' := by
  have hsa := sw_tmod a
  have hsb := sw_tmod b
  have hxb : -8388608 < a.tmod 8388608 := Int.lt_tmod_of_pos a (by omega)
  have C1 := Lib.hid (And.intro ha hb)
  have hr : 0 ≤ d % 255 ∧ d % 255 ≤ 254 := by omega
  go_enter Try.func6, Try.ntmps6
  go_wp2_with (fail)
  refine (small_any a b _ C1.out.1 C1.out.2).mono ?_
  rintro e w1 ⟨rfl, hb1⟩
  clear ha hb
  generalize a.tmod 8388608 = x at *
  generalize b.tmod 8388608 = y at *
  obtain ⟨k, hk⟩ : ∃ k, k = d % 255 + 1 := ⟨_, rfl⟩
  have hk1 : 1 ≤ k ∧ k ≤ 255 := by omega
  have skl : Sw k := Sw.of (by omega) (by omega)
  have n1 := nearest_fl hsa
  have n2 := nearest_fl hsb
  have n3 := nearest_fl skl
  have smk : Sm k := Sm.of (by omega) (by omega)
  have q1 : ∀ w, (binOp .quo 40 (.float .f64 (fl k)) (.float .f64 4643211215818981376)).run Try.prog w = .ok (.float .f64 (fz false k)) w := by
    intro w
    refine run_float_arith w .quo _ .f64 _ _ _ ?_
    obtain ⟨j, rfl⟩ := Int.eq_ofNat_of_zero_le (show 0 ≤ k by omega)
    have := div256 ⟨j, by omega⟩
    rw [fz_256] at this
    exact this
  have s1 : ∀ w, (binOp .add 40 (.float .f64 (fl x)) (.float .f64 (fz false k))).run Try.prog w = .ok (.float .f64 (fz false (256 * x + k))) w := by
    intro w
    have h := run_add_fz (P := Try.prog) w 40 (s := false) (t := false) hsa.sm smk
    rw [fz_any (t := false) (show 256 * x + k ≠ 0 by omega)] at h
    exact h
  have s2 : ∀ w, (binOp .sub 40 (.float .f64 (fl y)) (.float .f64 (fz false k))).run Try.prog w = .ok (.float .f64 (fz false (256 * y - k))) w := by
    intro w
    have h := run_sub_fz (P := Try.prog) w 40 (s := false) (t := false) hsb.sm smk
    rw [fz_any (t := false) (show 256 * y - k ≠ 0 by omega)] at h
    exact h
  have s3 : ∀ w, (binOp .add 40 (.float .f64 (fl x)) (.float .f64 4715268809856909312)).run Try.prog w = .ok (.float .f64 (fl (x + 16777216))) w := by
    intro w
    have h := run_add_fl (P := Try.prog) w 40 (b := 16777216) hsa (Sw.of (by omega) (by omega))
    have e : fl 16777216 = 4715268809856909312 := fz_far
    rw [e] at h
    exact h
  have b1 := fun w => back_no (256 * x + k) (256 * y) w (by unfold Sw at hsa; unfold Sm; omega) hsb.sm (by rw [wholeB_odd (by omega), Bool.false_and])
  have b2 := fun w => back_no (256 * x) (256 * y - k) w hsa.sm (by unfold Sw at hsb; unfold Sm; omega) (by rw [wholeB_odd (m := 256 * y - k) (by omega), Bool.and_false])
  have b3 := fun w => back_no (256 * (x + 16777216)) (256 * y) w (by unfold Sw at hsa; unfold Sm; omega) hsb.sm (by rw [wholeB_int, decide_eq_false (p := x + 16777216 < 4194304) (by omega), Bool.and_false, Bool.false_and])
  have C := Lib.hid (And.intro b1 (And.intro b2 b3))
  have K := Lib.hid hk
  have hk2 : d % 255 + 1 = k := hk.symm
  clear hk b1 b2 b3 smk skl hsa hsb hxb
  go_wp2
  go_quiet (fail)
  go_wp2_with (fail)
  refine (C.out.1 _).mono ?_
  rintro e w' ⟨rfl, rfl⟩
  go_wp2_with (fail)
  refine (C.out.2.1 _).mono ?_
  rintro e w' ⟨rfl, rfl⟩
  go_wp2_with (fail)
  refine (C.out.2.2 _).mono ?_
  rintro e w' ⟨rfl, rfl⟩
  go_wp2_with (fail)
  refine (lives_any _).mono ?_
  rintro e w' ⟨rfl, rfl⟩
  go_wp2_with (fail)
  go_ret
  refine ⟨rfl, ?_⟩
  exact bdN (hb1.alloc hb1.size _) _

theorem bd32 {a : Int} (h : (Lit.int .i32 a).wf = true) : -2147483648 ≤ a ∧ a ≤ 2147483647 := by
  have h2 : IntKind.i32.min ≤ a ∧ a ≤ IntKind.i32.max := by simpa [Lit.wf] using h
  exact h2
theorem bd64 {a : Int} (h : (Lit.int .i64 a).wf = true) : -9223372036854775808 ≤ a ∧ a ≤ 9223372036854775807 := by
  have h2 : IntKind.i64.min ≤ a ∧ a ≤ IntKind.i64.max := by simpa [Lit.wf] using h
  exact h2
theorem bdu8 {a : Int} (h : (Lit.int .u8 a).wf = true) : 0 ≤ a ∧ a ≤ 255 := by
  have h2 : IntKind.u8.min ≤ a ∧ a ≤ IntKind.u8.max := by simpa [Lit.wf] using h
  exact h2
theorem bdi16 {a : Int} (h : (Lit.int .i16 a).wf = true) : -32768 ≤ a ∧ a ≤ 32767 := by
  have h2 : IntKind.i16.min ≤ a ∧ a ≤ IntKind.i16.max := by simpa [Lit.wf] using h
  exact h2
theorem bdu64 {a : Int} (h : (Lit.int .u64 a).wf = true) : 0 ≤ a ∧ a ≤ 18446744073709551615 := by
  have h2 : IntKind.u64.min ≤ a ∧ a ≤ IntKind.u64.max := by simpa [Lit.wf] using h
  exact h2

theorem planeOnce_int (n m : Int) (w : World) (hn : 0 ≤ n ∧ n ≤ 18446744073709551615) (hm : 0 ≤ m ∧ m ≤ 18446744073709551615) :
    Calls Try.prog 4 #[.int .u64 n, .int .u64 m] w fun e w' => e = .returned (.bool true) ∧ Below w.heap.size w w' := by
  obtain ⟨n, rfl⟩ := Int.eq_ofNat_of_zero_le hn.1
  obtain ⟨m, rfl⟩ := Int.eq_ofNat_of_zero_le hm.1
  exact planeOnce_walk n m w (by omega) (by omega)
end Go.Proofs.Ytedbbbbjajafgaa
