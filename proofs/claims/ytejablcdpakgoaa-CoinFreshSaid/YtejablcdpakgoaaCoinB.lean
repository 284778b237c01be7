/- What the reference's PutPoint answers. -/
import Derived.Test.YtejablcdpakgoaaCoinA
namespace Go.Proofs.Ytejablcdpakgoaa
open Go.RowKit Go.Proofs En Co
set_option linter.unusedVariables false
set_option linter.unusedSimpArgs false

theorem wrap_u64 {n : Int} (h : 0 ≤ n ∧ n < 18446744073709551616) : IntKind.u64.wrap n = n := by
  simp [IntKind.wrap, IntKind.signed, IntKind.bits]; omega
theorem pt_cell {w : World} {p : Pt} (hp : p.ok) {g : Nat} {more : List Value} {t : TypeId} (hg : w.heap[g]? = some (.cells (pc p ++ more).toArray t (0, 0))) {k : Nat} (hk : k < 32) :
    w.cell? ⟨g, k, none⟩ = some (.int .u8 (p.tx.getD k 0)) := by
  have hl := pc_length hp
  rw [cell_of_row w g k _ _ _ hg]
  have : (pc p ++ more)[k]? = some (.int .u8 (p.tx.getD k 0)) := by rw [List.getElem?_append_left (by omega)]; exact pc_tx hp k hk
  simpa using this
/-- what a row of bytes that another call made reads, behind a write to one's own row that was there -/
theorem rd_past {w w1 w2 : World} {base base' : Nat} {A B : Option Addr} {n c m d : Nat} {p q : List Int} (ho : OwnB w base A n c p) (hq : OwnB w1 base' B m d q) (hb : w.heap.size ≤ base') (hg : w1.grownBy w2 (blk A)) : RdN w2 .u8 B m q :=
  (OwnN.grown hq hg fun k hk e => by have := (OwnN.lt hq k hk).1; have := (OwnN.lt ho k e).2; omega).rd

/-- what a region that reads the number and the height of a point in its box needs -/
abbrev StP (w : World) (p : Pt) (w' : World) : Prop := St w.heap.size w w.heap.size (.cells (pc p).toArray 27 (0, 0)) w' ∧ w'.cell? ⟨w.heap.size, 32, none⟩ = some (.int .u16 p.n) ∧ w'.cell? ⟨w.heap.size, 33, none⟩ = some (.int .u32 p.h)
theorem StP.of {w w' : World} {p : Pt} (hp : p.ok) (h : St w.heap.size w w.heap.size (.cells (pc p).toArray 27 (0, 0)) w') : StP w p w' :=
  ⟨h, pt_cells (more := []) hp (by rw [List.append_nil]; exact h.2)⟩
theorem StP.below {w w' w2 : World} {p : Pt} (hp : p.ok) (h : StP w p w') (hb : Below w'.heap.size w' w2) : StP w p w2 := StP.of hp (h.1.below (Nat.le_refl _) hb)
theorem StP.app {w w' w2 : World} {p : Pt} {A : Option Addr} {n c : Nat} {q : List Int} (hp : p.ok) (h : StP w p w') (ho : OwnB w' w.heap.size A n c q) (hg : w'.grownBy w2 (blk A)) : StP w p w2 :=
  StP.of hp (h.1.app (Nat.le_refl _) ho (Nat.le_refl _) (by decide) hg)

set_option maxHeartbeats 1000000 in
theorem rputPoint_any (p : Pt) (hp : p.ok) (w : World) :
    Calls Try.prog 18 #[.agg (pc p).toArray] w fun e w' => ∃ A c, e = .returned (.slice A 38 c) ∧ OwnB w' w.heap.size A 38 c (putPF p) ∧ Below w.heap.size w w' := by
  have hn := hp.n
  have hh := hp.h
  have hS : St w.heap.size w w.heap.size (.cells (pc p).toArray 27 (0, 0)) (w.alloc (.cells (pc p).toArray 27)) := ⟨((Below.refl _ _).alloc (Nat.le_refl _) _), heap_alloc_new w _⟩
  have H1 := Lib.hid hS
  have PL := Lib.hid hp.len
  clear hS
  go_enter Try.func18, Try.ntmps18
  go_wp2_with (fail)
  go_loopw [3, 4] (fun v i wr => ∃ k : Nat, k ≤ 32 ∧ i = .int .i64 k ∧ (∃ A c, v = .slice A k c ∧ OwnB wr w.heap.size A k c (p.tx.take k)) ∧ St w.heap.size w w.heap.size (.cells (pc p).toArray 27 (0, 0)) wr) (fun _ i _ => 32 - (intOf i).toNat)
  case atStart => exact ⟨0, by omega, rfl, ⟨none, 0, rfl, OwnN.nil _ _ _ _⟩, H1.out⟩
  case round =>
    obtain ⟨k, hk, rfl, ⟨A, c, rfl, ho⟩, hSt⟩ := hrel
    have hz := hSt.1.size
    by_cases hlt : k < 32
    · have hc := pt_cell (more := []) hp (by rw [List.append_nil]; exact hSt.2) hlt
      have hSn := take_snoc0 p.tx k (by rw [PL.out]; exact hlt)
      have SN := Lib.hid hSn
      have HH := Lib.hid (And.intro hSt ho)
      clear hSn hSt ho H1
      have d0 : decide ((k : Int) < 32) = true := decide_eq_true (by omega)
      generalize p.tx.getD k 0 = x at *
      go_wp2_with (at_builtin; refine Stop.mk ?_)
      refine Stop.out ?_
      refine wpList_appN _ rfl (.tmp 9) (.tmp 14) _ rfl w.heap.size 5 .u8 1 Try.underlying29 inf_b A k c _ rfl (OwnN.alloc HH.out.2 _) (some ⟨wr.heap.size, 0, none⟩) 1 1 [x] rfl (rd_lit wr [x] 1 (by omega) rfl) (by unfold maxLen; omega) (by omega) (by simp; omega) ?_
      intro A3 c3 w3 ho3 hg3 _
      have hS4 := (HH.out.1.alloc (Nat.le_refl _) _).app (Nat.le_refl _) (OwnN.alloc HH.out.2 _) (Nat.le_refl _) (by decide) hg3
      have H3 := Lib.hid (And.intro hS4 ho3)
      clear hS4 ho3 hg3 HH
      go_wp2_with (fail)
      go_roundw
      case rel => exact ⟨k + 1, by omega, by go_num, ⟨A3, c3, rfl, by rw [SN.out]; exact H3.out.2⟩, H3.out.1⟩
      case measure => simp [intOf]; omega
    · obtain rfl : k = 32 := by omega
      obtain ⟨kn, kh⟩ := pt_cells (more := []) hp (by rw [List.append_nil]; exact hSt.2)
      rw [List.take_of_length_le (by rw [PL.out]; exact Nat.le_refl _)] at ho
      have hlo := OwnN.lt ho
      have HH := Lib.hid (And.intro hSt ho)
      have LO := Lib.hid hlo
      clear hSt ho H1 hlo
      have d0 : decide (((32 : Nat) : Int) < 32) = false := by decide
      have hS0 : StP w p wr := ⟨HH.out.1, kn, kh⟩
      have C2 := Lib.hid fun w' => rclow_is w' (show 0 ≤ p.n ∧ p.n < 18446744073709551616 by omega) (putF_2 hn)
      have C4 := Lib.hid fun w' => rclow_is w' (show 0 ≤ p.h ∧ p.h < 18446744073709551616 by omega) (putF_4 hh)
      have wn : IntKind.u64.wrap p.n = p.n := wrap_u64 (by omega)
      have wh : IntKind.u64.wrap p.h = p.h := wrap_u64 (by omega)
      go_wp2_with (fail)
      go_region_held3? (fun w' => StP w p w') (first | exact hS4 | exact hS3 | exact hS2 | exact hS1 | exact ⟨⟨hS0.1.1.drew, hS0.1.2⟩, hS0.2.1, hS0.2.2⟩)
        (first
          | (go_at_call 39; (with_reducible refine (C2.out _).mono ?_); rintro e w1 ⟨A2, c2, rfl, ho2, hb1⟩; have hS1 := StP.below hp (w' := wr.drew) ⟨⟨hS0.1.1.drew, hS0.1.2⟩, hS0.2.1, hS0.2.2⟩ hb1)
          | (go_at_call 39; (with_reducible refine (C4.out _).mono ?_); rintro e w3 ⟨A4, c4, rfl, ho4, hb3⟩; have hS3 := StP.below hp hS2 hb3)
          | (refine step_appN _ rfl (.tmp 16) (.tmp 20) _ (by rfl) w.heap.size 5 .u8 1 Try.underlying29 inf_b A 32 c p.tx (by rfl) (OwnN.below (OwnN.drew HH.out.2) hb1) A2 _ c2 _ (by rfl) ho2.rd (by simp only [lowF_length]; decide) (by simp only [lowF_length]; decide) (hS1.1.1.size) ?_; intro A3 c3 w2 ho3 hg2 _; have hS2 := StP.app hp hS1 (OwnN.below (OwnN.drew HH.out.2) hb1) hg2)
          | (refine step_appN _ rfl (.tmp 21) (.tmp 25) _ (by rfl) w.heap.size 5 .u8 1 Try.underlying29 inf_b A3 _ c3 _ (by rfl) (OwnN.below ho3 hb3) A4 _ c4 _ (by rfl) ho4.rd (by simp only [lowF_length]; decide) (by simp only [lowF_length]; decide) (hS3.1.1.size) ?_; intro A5 c5 w4 ho5 hg4 _; have hS4 := StP.app hp hS3 (OwnN.below ho3 hb3) hg4))
      have H6 := Lib.hid (And.intro hS4.1.1 ho5)
      clear wn wh hS1 hS2 hS3 hS4 ho5 ho4 ho3 ho2 hb1 hb3 hg2 hg4
      go_wp2_with (fail)
      go_ret
      exact ⟨A5, c5, rfl, H6.out.2, H6.out.1⟩
end Go.Proofs.Ytejablcdpakgoaa
