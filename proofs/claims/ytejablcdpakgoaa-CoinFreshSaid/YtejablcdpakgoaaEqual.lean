/- Whole structs and arrays: compared, built, stored, loaded, returned. For whatever program. -/
import Derived.Test.YtejablcdpakgoaaBase
import Derived.Laws.StructEq
import Derived.Laws.Tables
import Derived.Laws.Rows
namespace Go.Proofs.Ytejablcdpakgoaa
open Go.RowKit Go.Proofs
set_option linter.unusedVariables false
set_option linter.unusedSimpArgs false

theorem run_equalIn_bytes {P : Program} (w : World) (d : Nat) (t e : TypeId) (len : Nat) (ht : P.underlying t = some (.array len e)) (he : P.underlying e = some (.int .u8)) (hi : (P.info? e).map (·.size) = some 1)
    (xs ys : List Int) (hx : xs.length = len) (hy : ys.length = len) :
    (Op.equalIn (d + 2) t (.agg (ns .u8 xs).toArray) (.agg (ns .u8 ys).toArray)).run P w = .ok (decide (xs = ys)) w := by
  have hsz : (sizeOf e).run P w = .ok 1 w := by
    cases hq : P.info? e with
    | none => simp [hq] at hi
    | some i =>
      have hs : i.size = 1 := by simpa [hq] using hi
      simp [sizeOf, typeInfo, hq, hs]
  have hag : (isAgg e).run P w = .ok false w := by
    unfold isAgg
    rw [Sem.run_bind, run_underlying he w]
    rfl
  have hpart : ∀ (zs : List Int) (i : Nat), i < zs.length → (part e (ns .u8 zs).toArray i).run P w = .ok (.int .u8 (zs.getD i 0)) w := by
    intro zs i hlt
    unfold part
    rw [Sem.run_bind, hag]
    simp only [Result.andThen_ok]
    have : (ns .u8 zs).toArray[i]? = some (.int .u8 (zs.getD i 0)) := by simpa using ns_get .u8 zs i hlt
    simp [this]
  have heq : ∀ a b, (Op.equalIn (d + 1) e (.int .u8 a) (.int .u8 b)).run P w = .ok (a == b) w := fun a b => run_equalIn_int w d e .u8 .u8 a b he
  show (Op.equalIn (d + 1 + 1) t (.agg (ns .u8 xs).toArray) (.agg (ns .u8 ys).toArray)).run P w = _
  generalize d + 1 = D at heq ⊢
  simp only [Op.equalIn, Sem.run_bind, run_underlying ht, Result.andThen_ok, hsz, Nat.mul_one]
  rw [Std.Legacy.Range.forIn_eq_forIn_range']
  simp only [Std.Legacy.Range.size, Nat.sub_zero, Nat.add_sub_cancel, Nat.div_one]
  have H : ∀ (m s : Nat), s + m = len → xs.take s = ys.take s → (forIn (List.range' s m) ((none : Option Bool), ()) (fun i __s => do
      let a ← part e (ns .u8 xs).toArray i
      let b ← part e (ns .u8 ys).toArray i
      let c ← Op.equalIn D e a b
      if (!c) = true then pure (ForInStep.done (some false, ())) else pure (ForInStep.yield (none, ()))) : Sem (Option Bool × Unit)).run P w = .ok (if xs = ys then (none, ()) else (some false, ())) w := by
    intro m
    induction m with
    | zero =>
      intro s hs ht
      have e1 : xs = ys := by
        rw [List.take_of_length_le (by omega), List.take_of_length_le (by omega)] at ht
        exact ht
      simp [e1]
    | succ m ih =>
      intro s hs ht
      rw [List.range'_succ]
      simp only [List.forIn_cons, Sem.run_bind, hpart xs s (by omega), hpart ys s (by omega), Result.andThen_ok, heq]
      by_cases hxy : xs.getD s 0 = ys.getD s 0
      · have hb : (xs.getD s 0 == ys.getD s 0) = true := by rw [beq_iff_eq]; exact hxy
        have ht' : xs.take (s + 1) = ys.take (s + 1) := by
          rw [List.take_succ_eq_append_getElem (by omega), List.take_succ_eq_append_getElem (by omega), ht]
          rw [List.getD_eq_getElem?_getD, List.getD_eq_getElem?_getD, List.getElem?_eq_getElem (by omega), List.getElem?_eq_getElem (by omega)] at hxy
          have hxy' : xs[s] = ys[s] := hxy
          rw [hxy']
        simp only [hb, Bool.not_true, Bool.false_eq_true, if_false, Sem.run_pure, Result.andThen_ok]
        exact ih (s + 1) (by omega) ht'
      · have hb : (xs.getD s 0 == ys.getD s 0) = false := by rw [beq_eq_false_iff_ne]; exact hxy
        have hne : xs ≠ ys := fun h => hxy (by rw [h])
        simp only [hb, Bool.not_false, if_true, Sem.run_pure, Result.andThen_ok, if_neg hne]
  rw [H len 0 (by omega) (by simp)]
  by_cases h : xs = ys
  · simp [h]
  · simp [h]
end Go.Proofs.Ytejablcdpakgoaa
