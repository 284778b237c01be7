/- What each function of layer 5's program answers, at places whose parts are whole numbers of two hundred fifty-sixths. -/
import Derived.Test.YtedbbbbjajafgaaProg
import Derived.Test.YtedbbbbjajafgaaFloat
import Derived.WalkKit
import Derived.WalkLawsBesides
import Derived.WalkSpells
import Derived.Deep.QuietTactic
import Derived.BigQuiet
import Derived.Lib.Hide
import Derived.Laws.ComplexArith
namespace Go.Proofs.Ytedbbbbjajafgaa
open Go.RowKit Go.Proofs Fl
set_option linter.unusedVariables false
set_option linter.unusedSimpArgs false

/-- m two hundred fifty-sixths, no greater than what the words bear -/
def Sm (m : Int) : Prop := m.natAbs < 2 ^ 52
theorem Sm.of {m : Int} (h : -4503599627370496 < m) (h' : m < 4503599627370496) : Sm m := by unfold Sm; omega

section
variable {P : Program} (w : World)
theorem run_add_fz (T : TypeId) {s t : Bool} {m n : Int} (hm : Sm m) (hn : Sm n) : (binOp .add T (.float .f64 (fz s m)) (.float .f64 (fz t n))).run P w = .ok (.float .f64 (fz (sg s m && sg t n) (m + n))) w :=
  run_float_arith w .add T .f64 _ _ _ (add_fz s t m n hm hn)
theorem run_sub_fz (T : TypeId) {s t : Bool} {m n : Int} (hm : Sm m) (hn : Sm n) : (binOp .sub T (.float .f64 (fz s m)) (.float .f64 (fz t n))).run P w = .ok (.float .f64 (fz (sg s m && !sg t n) (m - n))) w :=
  run_float_arith w .sub T .f64 _ _ _ (sub_fz s t m n hm hn)
theorem ord_eq {s t : Bool} {m n : Int} (hm : Sm m) (hn : Sm n) : (FloatKind.f64.format.order (fz s m) (fz t n) == some Ordering.eq) = decide (m = n) := by
  have hh : FloatKind.f64.format.order (fz s m) (fz t n) = some (compare m n) := order_fz s t m n hm hn
  rw [hh]
  by_cases hc : m = n
  · subst hc; simp
  · have : compare m n ≠ .eq := fun h => hc (Int.compare_eq_eq.1 h)
    simp [this, hc]
theorem ord_lt {s t : Bool} {m n : Int} (hm : Sm m) (hn : Sm n) : (FloatKind.f64.format.order (fz s m) (fz t n) == some Ordering.lt) = decide (m < n) := by
  have hh : FloatKind.f64.format.order (fz s m) (fz t n) = some (compare m n) := order_fz s t m n hm hn
  rw [hh]
  by_cases hc : m < n
  · simp [Int.compare_eq_lt.2 hc, hc]
  · have : compare m n ≠ .lt := fun h => hc (Int.compare_eq_lt.1 h)
    simp [this, hc]
theorem ord_gt {s t : Bool} {m n : Int} (hm : Sm m) (hn : Sm n) : (FloatKind.f64.format.order (fz s m) (fz t n) == some Ordering.gt) = decide (n < m) := by
  have hh : FloatKind.f64.format.order (fz s m) (fz t n) = some (compare m n) := order_fz s t m n hm hn
  rw [hh]
  by_cases hc : n < m
  · simp [Int.compare_eq_gt.2 hc, hc]
  · have : compare m n ≠ .gt := fun h => hc (Int.compare_eq_gt.1 h)
    simp [this, hc]
theorem run_trunc_fz {s : Bool} {m : Int} (hm : Sm m) : (callFunc 24 #[.float .f64 (fz s m)]).run Try.prog w = .ok (.value (.float .f64 (fz (sg s m) (256 * m.tdiv 256)))) w := by
  have h0 : FloatKind.f64.decode (fz s m) = Ieee.double.read (fz s m) := rfl
  have h := run_callFunc_extern (P := Try.prog) (e := Extern.MathFloor.toIntegral "math.archTrunc" .zero) Try.func24 (by kernel_rfl) (by kernel_rfl) (by kernel_rfl) (by kernel_rfl) #[.float .f64 (fz s m)] w
  rw [h]
  obtain ⟨c, hc⟩ : ∃ c : Nat, c = 1066 := ⟨_, rfl⟩
  obtain ⟨k, q, h1, _, _⟩ := read_fz s m c hc (by unfold Sm at hm; omega)
  have h2 := trunc_fz s m hm
  rw [h1] at h2
  obtain ⟨f, hf⟩ : ∃ f : Bool → Nat → Sem Value, Extern.MathFloor.toIntegral "math.archTrunc" .zero #[.float .f64 (fz s m)] =
      (match FloatKind.f64.decode (fz s m) with | .nan g t => f g t | d => pure (.float .f64 (FloatKind.f64.encode (d.integral .zero)))) := ⟨_, rfl⟩
  rw [hf, h0, h1]
  show Result.andThen (Sem.run _ (pure (Value.float .f64 (FloatKind.f64.encode ((Ieee.Datum.number (sg s m) k ((q : Int) - 1074)).integral .zero)))) w) _ = _
  rw [show (FloatKind.f64.encode ((Ieee.Datum.number (sg s m) k ((q : Int) - 1074)).integral .zero)) = fz (sg s m) (256 * m.tdiv 256) from h2]
  rfl
end

set_option maxHeartbeats 400000 in
theorem plain_any (s t : Bool) (m n : Int) (w : World) (hm : Sm m) (hn : Sm n) :
    Calls Try.prog 22 #[.complex .f64 (fz s m) (fz t n)] w fun e w' => e = .returned (.complex .f64 (fz false m) (fz false n)) ∧ w = w' := by
  have h1 : ∀ w, (binOp .add 40 (.float .f64 (fz s m)) (.float .f64 0)).run Try.prog w = .ok (.float .f64 (fz false m)) w := fun w => by
    have := run_add_fz (P := Try.prog) w 40 (s := s) (t := false) hm (Sm.of (m := 0) (by omega) (by omega))
    rw [fz_nought, sg_zero, Bool.and_false, Int.add_zero] at this; exact this
  have h2 : ∀ w, (binOp .add 40 (.float .f64 (fz t n)) (.float .f64 0)).run Try.prog w = .ok (.float .f64 (fz false n)) w := fun w => by
    have := run_add_fz (P := Try.prog) w 40 (s := t) (t := false) hn (Sm.of (m := 0) (by omega) (by omega))
    rw [fz_nought, sg_zero, Bool.and_false, Int.add_zero] at this; exact this
  go_enter Try.func22, Try.ntmps22
  go_wp2
  go_ret
  exact ⟨rfl, rfl⟩

/-- whole, and within 2^22 -/
def wholeB (m : Int) : Bool := decide (m = 256 * m.tdiv 256) && (decide (-1073741824 < m) && decide (m < 1073741824))

set_option maxHeartbeats 400000 in
theorem whole_any (m : Int) (w : World) (hm : Sm m) :
    Calls Try.prog 21 #[.float .f64 (fz false m)] w fun e w' => e = .returned (.bool (wholeB m)) ∧ w = w' := by
  have ht := fun w => run_trunc_fz w (s := false) hm
  have hm2 : Sm (256 * m.tdiv 256) := by
    unfold Sm at hm ⊢
    have h1 : (m.tdiv 256).natAbs = m.natAbs / 256 := Int.natAbs_tdiv m 256
    have h2 : (256 : Int).natAbs = 256 := rfl
    rw [Int.natAbs_mul, h1, h2]; omega
  have he := ord_eq (s := false) (t := sg false m) hm hm2
  have hg := ord_gt (s := false) (t := false) hm (Sm.of (m := -1073741824) (by omega) (by omega))
  have hl := ord_lt (s := false) (t := false) hm (Sm.of (m := 1073741824) (by omega) (by omega))
  rw [fz_lo] at hg
  rw [fz_hi] at hl
  have hw : wholeB m = (decide (m = 256 * m.tdiv 256) && (decide (-1073741824 < m) && decide (m < 1073741824))) := rfl
  generalize wholeB m = r at *
  generalize 256 * m.tdiv 256 = m' at *
  by_cases h1 : m = m'
  · by_cases h2 : -1073741824 < m
    · have e1 : decide (m = m') = true := decide_eq_true h1
      have e2 : decide (-1073741824 < m) = true := decide_eq_true h2
      rw [e1, e2, Bool.true_and, Bool.true_and] at hw
      rw [e1] at he
      rw [e2] at hg
      clear e1 e2 h1
      subst hw
      go_enter Try.func21, Try.ntmps21
      go_wp2
      go_ret
      exact ⟨rfl, rfl⟩
    · have e1 : decide (m = m') = true := decide_eq_true h1
      have e2 : decide (-1073741824 < m) = false := decide_eq_false h2
      rw [e1, e2, Bool.true_and, Bool.false_and] at hw
      rw [e1] at he
      rw [e2] at hg
      clear e1 e2 h1
      subst hw
      go_enter Try.func21, Try.ntmps21
      go_wp2
      go_ret
      exact ⟨rfl, rfl⟩
  · have e1 : decide (m = m') = false := decide_eq_false h1
    rw [e1, Bool.false_and] at hw
    rw [e1] at he
    clear e1 h1
    subst hw
    go_enter Try.func21, Try.ntmps21
    go_wp2
    go_ret
    exact ⟨rfl, rfl⟩
end Go.Proofs.Ytedbbbbjajafgaa
