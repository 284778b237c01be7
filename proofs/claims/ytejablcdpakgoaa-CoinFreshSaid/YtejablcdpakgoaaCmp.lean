/- What bytes.Compare answers. -/
import Derived.Test.YtejablcdpakgoaaBytes
import Derived.Lib.BytesEntry
import Derived.Laws.Externs
namespace Go.Proofs.Ytejablcdpakgoaa
open Go.RowKit Go.Proofs En
set_option linter.unusedVariables false
set_option linter.unusedSimpArgs false

def cmpL : List Int → List Int → Int
  | [], [] => 0
  | [], _ :: _ => -1
  | _ :: _, [] => 1
  | x :: xs, y :: ys => if x < y then -1 else if y < x then 1 else cmpL xs ys
theorem u8_lt (x y : Int) (hx : 0 ≤ x ∧ x ≤ 255) (hy : 0 ≤ y ∧ y ≤ 255) : (x.toNat.toUInt8 < y.toNat.toUInt8) ↔ x < y := by
  rw [UInt8.lt_iff_toNat_lt]
  simp only [Nat.toUInt8, UInt8.toNat_ofNat']
  omega
theorem cmpL_bytes : ∀ (xs ys : List Int), IsB xs → IsB ys → Lib.compareBytes (Lib.bytesOf xs) (Lib.bytesOf ys) = cmpL xs ys := by
  intro xs
  induction xs with
  | nil => intro ys _ _; cases ys <;> rfl
  | cons x xs ih =>
    intro ys hx hy
    cases ys with
    | nil => rfl
    | cons y ys =>
      have h1 := hx x (List.mem_cons_self ..)
      have h2 := hy y (List.mem_cons_self ..)
      have h3 := ih ys (fun z hz => hx z (List.mem_cons_of_mem _ hz)) (fun z hz => hy z (List.mem_cons_of_mem _ hz))
      show (if x.toNat.toUInt8 < y.toNat.toUInt8 then (-1 : Int) else if y.toNat.toUInt8 < x.toNat.toUInt8 then 1 else Lib.compareBytes (Lib.bytesOf xs) (Lib.bytesOf ys)) = if x < y then -1 else if y < x then 1 else cmpL xs ys
      rw [h3]
      by_cases a : x < y
      · rw [if_pos a, if_pos ((u8_lt x y h1 h2).2 a)]
      · rw [if_neg a, if_neg (fun h => a ((u8_lt x y h1 h2).1 h))]
        by_cases b : y < x
        · rw [if_pos b, if_pos ((u8_lt y x h2 h1).2 b)]
        · rw [if_neg b, if_neg (fun h => b ((u8_lt y x h2 h1).1 h))]
theorem run_bytesOf {P : Program} {w : World} {A : Option Addr} {n : Nat} {xs : List Int} (c : Nat) (h : RdN w .u8 A n xs) : (Extern.Bytes.bytesOf (.slice A n c)).run P w = .ok ⟨(Lib.bytesOf xs).toArray⟩ w := by
  have hl := h.len
  cases A with
  | none =>
    have hn : n = 0 := by
      rcases Nat.eq_zero_or_pos n with h0 | h0
      · exact h0
      · obtain ⟨ad, e, _⟩ := h.2 h0
        cases e
    have hx : xs = [] := List.eq_nil_of_length_eq_zero (by omega)
    subst hx
    rfl
  | some a =>
    have hr := Lib.run_loadBytesX (P := P) w xs a .empty (fun j x hj => by
      have hj2 := (List.getElem?_eq_some_iff.1 hj).1
      obtain ⟨ad, e, _, hc⟩ := h.at_ (i := j) (by omega)
      injection e with e
      subst e
      rw [hc, List.getD_eq_getElem?_getD, hj]
      rfl)
    rw [hl] at hr
    have he : (⟨ByteArray.empty.data ++ (Lib.bytesOf xs).toArray⟩ : ByteArray) = ⟨(Lib.bytesOf xs).toArray⟩ := by
      apply ByteArray.ext
      show (#[] : Array UInt8) ++ (Lib.bytesOf xs).toArray = (Lib.bytesOf xs).toArray
      simp
    rw [he] at hr
    exact hr
theorem run_cmp {P : Program} {w : World} {A B : Option Addr} {n m : Nat} {xs ys : List Int} (c d : Nat) (hA : RdN w .u8 A n xs) (hB : RdN w .u8 B m ys) (hx : IsB xs) (hy : IsB ys) :
    (Extern.BytealgCompare.compare #[.slice A n c, .slice B m d]).run P w = .ok (.int .i64 (cmpL xs ys)) w := by
  change Sem.run P (do pure (goInt (Extern.BytealgCompare.cmp (← Extern.Bytes.bytesOf (.slice A n c)) (← Extern.Bytes.bytesOf (.slice B m d))))) w = _
  simp only [Sem.run_bind, Sem.run_pure, run_bytesOf c hA, run_bytesOf d hB, Result.andThen]
  rw [Lib.cmp_eq, ← cmpL_bytes xs ys hx hy]
  rfl

set_option maxHeartbeats 400000 in
theorem compare_any (A : Option Addr) (n c : Nat) (xs : List Int) (B : Option Addr) (m d : Nat) (ys : List Int) (w : World) (hA : RdN w .u8 A n xs) (hB : RdN w .u8 B m ys) (hx : IsB xs) (hy : IsB ys) :
    Calls Try.prog 47 #[.slice A n c, .slice B m d] w fun e w' => e = .returned (.int .i64 (cmpL xs ys)) ∧ w = w' := by
  have h1 := run_cmp (P := Try.prog) c d hA hB hx hy
  generalize cmpL xs ys = r at *
  clear hA hB hx hy
  go_enter Try.func47, Try.ntmps47
  go_wp2_with (fail)
  rw [run_callFunc_extern Try.func56 (by kernel_rfl) (by kernel_rfl) (by kernel_rfl) (e := Extern.BytealgCompare.compare) (by kernel_rfl), h1]
  simp only [Result.andThen]
  rw [Oper.upon_value]
  go_wp2_with (fail)
  go_ret
  exact ⟨rfl, rfl⟩
end Go.Proofs.Ytejablcdpakgoaa
