/- What bytes.Equal answers. -/
import Derived.Test.YtejablcdpakgoaaProg
import Derived.Test.YtejablcdpakgoaaBase
import Derived.Test.YtejablcdpakgoaaEndsM
import Derived.Laws.BytesArg
import Derived.Lib.Bytes
namespace Go.Proofs.Ytejablcdpakgoaa
open Go.RowKit Go.Proofs En
set_option linter.unusedVariables false
set_option linter.unusedSimpArgs false

theorem conv_bytes {P : Program} (src e dst : TypeId) (hs : P.underlying src = some (.slice e)) (he : P.underlying e = some (.int .u8)) (hd : P.underlying dst = some .string)
    {w : World} {A : Option Addr} {n : Nat} {xs : List Int} (c : Nat) (h : RdN w .u8 A n xs) : (convert src dst (.slice A n c)).run P w = .ok (.string (strOfNums xs)) w := by
  have hl := h.len
  by_cases hn : n = 0
  · subst hn
    have hx : xs = [] := List.eq_nil_of_length_eq_zero hl
    subst hx
    rw [run_convert_bytes_string w src dst e _ 0 c hs he hd]
    cases A <;> simp [Conv.bytesToString, loadCells]
    all_goals rfl
  · obtain ⟨ad, rfl, _, hc0⟩ := h.at_ (show 0 < n by omega)
    obtain ⟨b, off, spot⟩ := ad
    have hspot : spot = none := by simpa [Addr.add] using World.cell?_spot hc0
    subst hspot
    refine run_convert_bytes_arg w src e hs he b off n c xs hl (fun i hi => ?_) dst hd
    obtain ⟨ad, e, _, hc⟩ := h.at_ hi
    injection e with e
    subst e
    have e2 : (⟨b, off, none⟩ : Addr).add i = ⟨b, off + i, none⟩ := by
      unfold Addr.add
      split <;> simp_all
    rw [e2] at hc
    exact hc

theorem u8_inj : ∀ (x y : Int), 0 ≤ x ∧ x ≤ 255 → 0 ≤ y ∧ y ≤ 255 → UInt8.ofNat x.toNat = UInt8.ofNat y.toNat → x = y := by
  intro x y hx hy h
  have := congrArg UInt8.toNat h
  simp only [UInt8.toNat_ofNat'] at this
  omega
theorem strOfNums_inj {xs : List Int} : ∀ {ys : List Int}, IsB xs → IsB ys → strOfNums xs = strOfNums ys → xs = ys := by
  intro ys hx hy h
  have h2 : (xs.map fun n => UInt8.ofNat n.toNat) = ys.map fun n => UInt8.ofNat n.toNat := by
    rw [← strOfNums_data, ← strOfNums_data, h]
  clear h
  induction xs generalizing ys with
  | nil => cases ys with
    | nil => rfl
    | cons y ys => simp at h2
  | cons x xs ih => cases ys with
    | nil => simp at h2
    | cons y ys =>
      simp only [List.map_cons] at h2
      injection h2 with h3 h4
      have e1 := u8_inj x y (hx x (List.mem_cons_self ..)) (hy y (List.mem_cons_self ..)) h3
      have e2 := ih (fun z hz => hx z (List.mem_cons_of_mem _ hz)) (fun z hz => hy z (List.mem_cons_of_mem _ hz)) h4
      rw [e1, e2]
theorem str_eq {xs ys : List Int} (hx : IsB xs) (hy : IsB ys) : ((strOfNums xs).toList == (strOfNums ys).toList) = decide (xs = ys) := by
  by_cases h : xs = ys
  · rw [decide_eq_true h, h]; exact beq_self_eq_true _
  · rw [decide_eq_false h, beq_eq_false_iff_ne, Lib.strOfNums_toList, Lib.strOfNums_toList]
    intro e
    apply h
    exact strOfNums_inj hx hy (by unfold strOfNums; exact congrArg (fun l : List UInt8 => (⟨l.toArray⟩ : ByteArray)) e)

set_option maxHeartbeats 400000 in
theorem equal_any (A : Option Addr) (n c : Nat) (xs : List Int) (B : Option Addr) (m d : Nat) (ys : List Int) (w : World) (hA : RdN w .u8 A n xs) (hB : RdN w .u8 B m ys) (hx : IsB xs) (hy : IsB ys) :
    Calls Try.prog 42 #[.slice A n c, .slice B m d] w fun e w' => e = .returned (.bool (decide (xs = ys))) ∧ w = w' := by
  have h1 := conv_bytes (P := Try.prog) 29 5 9 Try.underlying29 Try.underlying5 Try.underlying9 c hA
  have h2 := conv_bytes (P := Try.prog) 29 5 9 Try.underlying29 Try.underlying5 Try.underlying9 d hB
  have H := Lib.hid (str_eq hx hy)
  clear hA hB hx hy
  go_enter Try.func42, Try.ntmps42
  go_wp2_with (fail)
  go_ret
  rw [← H.out]
  exact ⟨rfl, rfl⟩
end Go.Proofs.Ytejablcdpakgoaa
