/- What the reference's May and Put, and both PutOut answer. -/
import Derived.Test.YtejablcdpakgoaaCoinF
namespace Go.Proofs.Ytejablcdpakgoaa
open Go.RowKit Go.Proofs En Co
set_option linter.unusedVariables false
set_option linter.unusedSimpArgs false
attribute [local go_sem ↓] ld_point_eq ld_coin_eq ld_hash_eq
attribute [local go_sem] ld_point_run ld_coin_run ld_hash_run

theorem coin_range {w : World} {m : Cm} {g : Nat} {t : TypeId} (hg : w.heap[g]? = some (.cells (cc m).toArray t (0, 0))) : w.rangeAt g 0 (cc m) := by
  intro j v hv
  rw [Nat.zero_add, cell_of_row w g j _ _ _ hg]
  simpa using hv

set_option maxRecDepth 10000 in
set_option maxHeartbeats 400000 in
theorem rmay06_any (m : Cm) (w : World) (hm : m.ok w) :
    Calls Try.prog 41 #[.agg (cc m).toArray] w fun e w' => e = .returned (.bool (mayO m.c.v m.c.l)) ∧ Below w.heap.size w w' := by
  have hS0 : StC w m (w.alloc (.cells (cc m).toArray 31)) := StC.of hm.c.p ⟨(Below.refl _ _).alloc (Nat.le_refl _) _, heap_alloc_new w _⟩
  have h34 := hS0.2.1
  have h36 := hS0.2.2.2.1
  have BL := Lib.hid hS0.1.1
  have C := fun w' => mayOut_any m.c.v m.A m.c.l.length m.k w' hm.c.v (by have := hm.arg.len; omega)
  rw [mayN_eq] at C
  have C := Lib.hid C
  clear hS0
  generalize mayO m.c.v m.c.l = r at *
  go_enter Try.func41, Try.ntmps41
  go_wp2_with (fail)
  refine (C.out _).mono ?_
  rintro e w1 ⟨rfl, hb1⟩
  have hbl := BL.out.trans (hb1.mono (by simp))
  clear hb1
  go_wp2_with (fail)
  go_ret
  exact ⟨rfl, hbl⟩

set_option maxRecDepth 10000 in
set_option maxHeartbeats 1000000 in
theorem rput06_any (m : Cm) (w : World) (hm : m.ok w) :
    Calls Try.prog 16 #[.agg (cc m).toArray] w fun e w' => ∃ A k, e = .returned (.tuple #[.slice A (putCF m.c).1.length k, .int .i64 (putCF m.c).2]) ∧ OwnB w' w.heap.size A (putCF m.c).1.length k (putCF m.c).1 ∧ Below w.heap.size w w' := by
  have hv := hm.c.v
  have hn := hm.arg.len
  have hS0 : StC w m (w.alloc (.cells (cc m).toArray 31)) := StC.of hm.c.p ⟨(Below.refl _ _).alloc (Nat.le_refl _) _, heap_alloc_new w _⟩
  have hR := coin_range hS0.1.2
  have hh1 := hasAt_of hR (cc_length hm.c.p)
  have hh2 := cellsAt_of hR (cc_length hm.c.p)
  have CM := Lib.hid (rmay06_any m _ (hm.below ((Below.refl w.heap.size w).alloc (Nat.le_refl _) (.cells (cc m).toArray 31))))
  clear hR
  cases hr : mayO m.c.v m.c.l with
  | false =>
    rw [putCF_err hr]
    rw [hr] at CM
    have BL := Lib.hid hS0.1.1
    clear hS0 hr
    go_enter Try.func16, Try.ntmps16
    go_wp2_with (fail)
    refine CM.out.mono ?_
    rintro e w1 ⟨rfl, hb1⟩
    have hbl := BL.out.trans (hb1.mono (by simp))
    go_wp2_with (fail)
    go_ret2
    exact ⟨none, 0, rfl, OwnN.nil _ _ _ _, hbl⟩
  | true =>
    have hl100 : m.c.l.length ≤ 100 := by unfold mayO at hr; exact (of_decide_eq_true hr).2
    rw [putCF_ok hr]
    rw [hr] at CM
    have CP := Lib.hid fun w' => rputPoint_any m.c.p hm.c.p w'
    have CL := Lib.hid fun w' => rclow_is w' hv (putF_8 m.c.v)
    have RL := rowF_length m.c.l
    have H0 := Lib.hid hS0
    clear hS0 hr
    go_enter Try.func16, Try.ntmps16
    go_wp2_with (fail)
    refine CM.out.mono ?_
    rintro e w1 ⟨rfl, hb1⟩
    have hS := H0.out.below hm.c.p hb1
    have hS1 := hS.drew hm.c.p
    have h35 := hS.2.2.1
    have H1 := Lib.hid (And.intro hS hS1)
    clear hb1 hh1 hh2 H0 CM hS hS1
    cases hbb : m.c.base with
    | true =>
      rw [hbb] at h35
      have HB := Lib.hid hbb
      have hS1 := H1.out.2
      clear hbb H1
      go_wp2_with (fail)
      go_region_held3 (fun w' => StC w m w') (first | exact hS4 | exact hS3 | exact hS2 | exact hS1)
        (first
          | (go_at_call 18; (with_reducible refine (CP.out _).mono ?_); rintro e w2 ⟨A2, c2, rfl, ho2, hb2⟩; have hS2 := hS1.below hm.c.p hb2)
          | (go_at_call 39; (with_reducible refine (CL.out _).mono ?_); rintro e w3 ⟨A3, c3, rfl, ho3, hb3⟩; have hS3 := hS2.below hm.c.p hb3)
          | (refine step_appN _ rfl (.tmp 13) (.tmp 16) _ (by rfl) w.heap.size 5 .u8 1 Try.underlying29 inf_b A2 38 c2 _ (by rfl) ((OwnN.mono ho2 hS1.1.1.size).below hb3) A3 _ c3 _ (by rfl) ho3.rd (by simp only [lowF_length]; decide) (by simp only [lowF_length]; decide) (hS3.1.1.size) ?_; intro A4 c4 w4 ho4 hg4 _; have hS4 := hS3.app hm.c.p ((OwnN.mono ho2 hS1.1.1.size).below hb3) hg4))
      rename_i hHeldX
      clear hHeldX
      rw [show (lowF m.c.v 8).length = 8 from lowF_length 8 _]
      have hb46 : OwnB w4 w.heap.size A4 46 c4 (putPF m.c.p ++ lowF m.c.v 8) := ho4
      have hS5 := hS4.drew hm.c.p
      have hS6 := hS5.alloc hm.c.p (.cells (ns .u8 [1]).toArray 5)
      have hz := hS4.1.1.size
      have LH := Lib.hid (And.intro hb46 ho4)
      clear hS1 hS2 hS3 hS4 ho2 ho3 ho4 hb2 hb3 hg4 hb46 CP CL h35
      go_wp2_with (fail)
      go_region_held3 (fun w' => StC w m w') (first | exact hS9 | exact hS8 | exact hS7 | exact hS6 | exact hS5)
        (first
          | (refine step_appN _ rfl (.tmp 18) (.tmp 20) _ (by rfl) w.heap.size 5 .u8 1 Try.underlying29 inf_b A4 46 c4 _ (by rfl) (OwnN.alloc (OwnN.drew LH.out.1) _) (some ⟨w4.heap.size, 0, none⟩) 1 1 [1] (by rfl) (rd_lit w4.drew [1] 1 (by decide) rfl) (by decide) (by decide) (by simp; omega) ?_; intro A5 c5 w5 ho5 hg5 _; have hS7 := hS6.app hm.c.p (OwnN.alloc (OwnN.drew LH.out.1) _) hg5)
          | (go_at_call 40; (with_reducible refine (rrow_is (hm.arg.below hS7.1.1) (by omega) rfl).mono ?_); rintro e w6 ⟨A6, c6, rfl, ho6, hb6⟩; have hS8 := hS7.below hm.c.p hb6)
          | (refine step_appN _ rfl (.tmp 21) (.tmp 24) _ (by rfl) w.heap.size 5 .u8 1 Try.underlying29 inf_b A5 (46 + 1) c5 _ (by rfl) (OwnN.below ho5 hb6) A6 _ c6 _ (by rfl) ho6.rd (by unfold maxLen; omega) (by omega) (hS8.1.1.size) ?_; intro A7 c7 w7 ho7 hg7 _; have hS9 := hS8.app hm.c.p (OwnN.below ho5 hb6) hg7))
      have H7 := Lib.hid (And.intro hS9 ho7)
      clear hS5 hS6 hS7 hS8 hS9 ho5 ho6 ho7 hb6 hg5 hg7 LH
      go_wp2_with (fail)
      go_ret2
      have hlen : (putPF m.c.p ++ lowF m.c.v 8 ++ [1] ++ rowF m.c.l).length = 46 + 1 + (rowF m.c.l).length := by simp only [List.length_append, putPF_length hm.c.p, lowF_length]; rfl
      rw [show baseF m.c.base = 1 from by rw [HB.out]; rfl]
      exact ⟨A7, c7, by rw [hlen]; rfl, by rw [hlen]; exact H7.out.2, H7.out.1.1.1⟩
    | false =>
      rw [hbb] at h35
      have HB := Lib.hid hbb
      have hS1 := H1.out.2
      clear hbb H1
      go_wp2_with (fail)
      go_region_held3 (fun w' => StC w m w') (first | exact hS4 | exact hS3 | exact hS2 | exact hS1)
        (first
          | (go_at_call 18; (with_reducible refine (CP.out _).mono ?_); rintro e w2 ⟨A2, c2, rfl, ho2, hb2⟩; have hS2 := hS1.below hm.c.p hb2)
          | (go_at_call 39; (with_reducible refine (CL.out _).mono ?_); rintro e w3 ⟨A3, c3, rfl, ho3, hb3⟩; have hS3 := hS2.below hm.c.p hb3)
          | (refine step_appN _ rfl (.tmp 13) (.tmp 16) _ (by rfl) w.heap.size 5 .u8 1 Try.underlying29 inf_b A2 38 c2 _ (by rfl) ((OwnN.mono ho2 hS1.1.1.size).below hb3) A3 _ c3 _ (by rfl) ho3.rd (by simp only [lowF_length]; decide) (by simp only [lowF_length]; decide) (hS3.1.1.size) ?_; intro A4 c4 w4 ho4 hg4 _; have hS4 := hS3.app hm.c.p ((OwnN.mono ho2 hS1.1.1.size).below hb3) hg4))
      rename_i hHeldX
      clear hHeldX
      rw [show (lowF m.c.v 8).length = 8 from lowF_length 8 _]
      have hb46 : OwnB w4 w.heap.size A4 46 c4 (putPF m.c.p ++ lowF m.c.v 8) := ho4
      have hS5 := hS4.drew hm.c.p
      have hS6 := hS5.alloc hm.c.p (.cells (ns .u8 [0]).toArray 5)
      have hz := hS4.1.1.size
      have LH := Lib.hid (And.intro hb46 ho4)
      clear hS1 hS2 hS3 hS4 ho2 ho3 ho4 hb2 hb3 hg4 hb46 CP CL h35
      go_wp2_with (fail)
      go_region_held3 (fun w' => StC w m w') (first | exact hS9 | exact hS8 | exact hS7 | exact hS6 | exact hS5)
        (first
          | (refine step_appN _ rfl (.tmp 18) (.tmp 20) _ (by rfl) w.heap.size 5 .u8 1 Try.underlying29 inf_b A4 46 c4 _ (by rfl) (OwnN.alloc (OwnN.drew LH.out.1) _) (some ⟨w4.heap.size, 0, none⟩) 1 1 [0] (by rfl) (rd_lit w4.drew [0] 1 (by decide) rfl) (by decide) (by decide) (by simp; omega) ?_; intro A5 c5 w5 ho5 hg5 _; have hS7 := hS6.app hm.c.p (OwnN.alloc (OwnN.drew LH.out.1) _) hg5)
          | (go_at_call 40; (with_reducible refine (rrow_is (hm.arg.below hS7.1.1) (by omega) rfl).mono ?_); rintro e w6 ⟨A6, c6, rfl, ho6, hb6⟩; have hS8 := hS7.below hm.c.p hb6)
          | (refine step_appN _ rfl (.tmp 21) (.tmp 24) _ (by rfl) w.heap.size 5 .u8 1 Try.underlying29 inf_b A5 (46 + 1) c5 _ (by rfl) (OwnN.below ho5 hb6) A6 _ c6 _ (by rfl) ho6.rd (by unfold maxLen; omega) (by omega) (hS8.1.1.size) ?_; intro A7 c7 w7 ho7 hg7 _; have hS9 := hS8.app hm.c.p (OwnN.below ho5 hb6) hg7))
      have H7 := Lib.hid (And.intro hS9 ho7)
      clear hS5 hS6 hS7 hS8 hS9 ho5 ho6 ho7 hb6 hg5 hg7 LH
      go_wp2_with (fail)
      go_ret2
      have hlen : (putPF m.c.p ++ lowF m.c.v 8 ++ [0] ++ rowF m.c.l).length = 46 + 1 + (rowF m.c.l).length := by simp only [List.length_append, putPF_length hm.c.p, lowF_length]; rfl
      rw [show baseF m.c.base = 0 from by rw [HB.out]; rfl]
      exact ⟨A7, c7, by rw [hlen]; rfl, by rw [hlen]; exact H7.out.2, H7.out.1.1.1⟩

/-- what a function is told of an output -/
def outC (v : Int) (A : Option Addr) (n k : Nat) : Value := .agg #[.int .u64 v, .slice A n k]
theorem putOF_err {v : Int} {l : List Int} (h : mayO v l = false) : putOF v l = ([], 2) := by unfold putOF; rw [if_neg (by rw [h]; decide)]
theorem putOF_ok {v : Int} {l : List Int} (h : mayO v l = true) : putOF v l = (lowF v 8 ++ rowF l, 0) := by unfold putOF; rw [if_pos h]
abbrev StO (w : World) (v : Int) (A : Option Addr) (n k : Nat) (w' : World) : Prop := St w.heap.size w w.heap.size (.cells #[.int .u64 v, .slice A n k] 42 (0, 0)) w' ∧ w'.cell? ⟨w.heap.size, 0, none⟩ = some (.int .u64 v) ∧ w'.cell? ⟨w.heap.size, 1, none⟩ = some (.slice A n k)
section
variable {w w' w2 : World} {v : Int} {A : Option Addr} {n k : Nat}
theorem StO.of (h : St w.heap.size w w.heap.size (.cells #[.int .u64 v, .slice A n k] 42 (0, 0)) w') : StO w v A n k w' := ⟨h, cell_of_row w' _ 0 _ _ _ h.2, cell_of_row w' _ 1 _ _ _ h.2⟩
theorem StO.below (h : StO w v A n k w') (hb : Below w'.heap.size w' w2) : StO w v A n k w2 := StO.of (h.1.below (Nat.le_refl _) hb)
theorem StO.drew (h : StO w v A n k w') : StO w v A n k w'.drew := StO.of ⟨h.1.1.drew, h.1.2⟩
theorem StO.app {B : Option Addr} {m c : Nat} {q : List Int} (h : StO w v A n k w') (ho : OwnB w' w.heap.size B m c q) (hg : w'.grownBy w2 (blk B)) : StO w v A n k w2 := StO.of (h.1.app (Nat.le_refl _) ho (Nat.le_refl _) (by decide) hg)
end
set_option maxRecDepth 10000 in
set_option maxHeartbeats 1000000 in
theorem putOut_any (v : Int) (A : Option Addr) (k : Nat) (l : List Int) (w : World) (hv : 0 ≤ v ∧ v < 18446744073709551616) (ha : Arg w A l.length k l) :
    Calls Try.prog 14 #[.agg #[.int .u64 v, .slice A l.length k]] w fun e w' => ∃ B d, e = .returned (.tuple #[.slice B (putOF v l).1.length d, .int .i64 (putOF v l).2]) ∧ OwnB w' w.heap.size B (putOF v l).1.length d (putOF v l).1 ∧ Below w.heap.size w w' := by
  have hn := ha.len
  have hS0 : StO w v A l.length k (w.alloc (.cells #[.int .u64 v, .slice A l.length k] 42)) := StO.of ⟨(Below.refl _ _).alloc (Nat.le_refl _) _, heap_alloc_new w _⟩
  have h0 := hS0.2.1
  have h1 := hS0.2.2
  have CM := fun w' => may06_any v A l.length k w' hv (by omega)
  rw [mayN_eq] at CM
  cases hr : mayO v l with
  | false =>
    rw [putOF_err hr]
    rw [hr] at CM
    have C := Lib.hid CM
    have BL := Lib.hid hS0.1.1
    clear CM hS0 hr
    go_enter Try.func14, Try.ntmps14
    go_wp2_with (fail)
    refine (C.out _).mono ?_
    rintro e w1 ⟨rfl, hb1⟩
    subst hb1; have hbl := BL.out
    go_wp2_with (fail)
    go_ret2
    exact ⟨none, 0, rfl, OwnN.nil _ _ _ _, hbl⟩
  | true =>
    have hl100 : l.length ≤ 100 := by unfold mayO at hr; exact (of_decide_eq_true hr).2
    have RL := rowF_length l
    rw [putOF_ok hr]
    rw [hr] at CM
    have C := Lib.hid CM
    have CL := Lib.hid fun w' => clow_is w' hv (putF_8 v)
    have H0 := Lib.hid hS0
    clear CM hS0 hr
    go_enter Try.func14, Try.ntmps14
    go_wp2_with (fail)
    refine (C.out _).mono ?_
    rintro e w1 ⟨rfl, hb1⟩
    subst hb1; have hS1 := H0.out.drew
    clear H0
    go_wp2_with (fail)
    go_region_held3 (fun w' => StO w v A l.length k w') (first | exact hS4 | exact hS3 | exact hS2 | exact hS1)
      (first
        | (go_at_call 33; (with_reducible refine (CL.out _).mono ?_); rintro e w2 ⟨A2, c2, rfl, ho2, hb2⟩; have hS2 := hS1.below hb2)
        | (go_at_call 34; (with_reducible refine (row_is (ha.below hS2.1.1) (by omega) rfl).mono ?_); rintro e w3 ⟨A3, c3, rfl, ho3, hb3⟩; have hS3 := hS2.below hb3)
        | (refine step_appN _ rfl (.tmp 12) (.tmp 15) _ (by rfl) w.heap.size 5 .u8 1 Try.underlying29 inf_b A2 _ c2 _ (by rfl) ((OwnN.mono ho2 hS1.1.1.size).below hb3) A3 _ c3 _ (by rfl) ho3.rd (by simp only [lowF_length]; unfold maxLen; omega) (by simp only [lowF_length]; omega) (hS3.1.1.size) ?_; intro A4 c4 w4 ho4 hg4 _; have hS4 := hS3.app ((OwnN.mono ho2 hS1.1.1.size).below hb3) hg4))
    rename_i hHeldX
    clear hHeldX
    have H4 := Lib.hid (And.intro hS4 ho4)
    clear hS1 hS2 hS3 hS4 ho2 ho3 ho4 hb2 hb3 hg4 h0 h1
    go_wp2_with (fail)
    go_ret2
    exact ⟨A4, c4, by rw [List.length_append]; rfl, by rw [List.length_append]; exact H4.out.2, H4.out.1.1.1⟩

set_option maxRecDepth 10000 in
set_option maxHeartbeats 1000000 in
theorem rputOut_any (v : Int) (A : Option Addr) (k : Nat) (l : List Int) (w : World) (hv : 0 ≤ v ∧ v < 18446744073709551616) (ha : Arg w A l.length k l) :
    Calls Try.prog 15 #[.agg #[.int .u64 v, .slice A l.length k]] w fun e w' => ∃ B d, e = .returned (.tuple #[.slice B (putOF v l).1.length d, .int .i64 (putOF v l).2]) ∧ OwnB w' w.heap.size B (putOF v l).1.length d (putOF v l).1 ∧ Below w.heap.size w w' := by
  have hn := ha.len
  have hS0 : StO w v A l.length k (w.alloc (.cells #[.int .u64 v, .slice A l.length k] 42)) := StO.of ⟨(Below.refl _ _).alloc (Nat.le_refl _) _, heap_alloc_new w _⟩
  have h0 := hS0.2.1
  have h1 := hS0.2.2
  have CM := fun w' => mayOut_any v A l.length k w' hv (by omega)
  rw [mayN_eq] at CM
  cases hr : mayO v l with
  | false =>
    rw [putOF_err hr]
    rw [hr] at CM
    have C := Lib.hid CM
    have BL := Lib.hid hS0.1.1
    clear CM hS0 hr
    go_enter Try.func15, Try.ntmps15
    go_wp2_with (fail)
    refine (C.out _).mono ?_
    rintro e w1 ⟨rfl, hb1⟩
    have hbl := BL.out.trans (hb1.mono (by simp))
    go_wp2_with (fail)
    go_ret2
    exact ⟨none, 0, rfl, OwnN.nil _ _ _ _, hbl⟩
  | true =>
    have hl100 : l.length ≤ 100 := by unfold mayO at hr; exact (of_decide_eq_true hr).2
    have RL := rowF_length l
    rw [putOF_ok hr]
    rw [hr] at CM
    have C := Lib.hid CM
    have CL := Lib.hid fun w' => rclow_is w' hv (putF_8 v)
    have H0 := Lib.hid hS0
    clear CM hS0 hr
    go_enter Try.func15, Try.ntmps15
    go_wp2_with (fail)
    refine (C.out _).mono ?_
    rintro e w1 ⟨rfl, hb1⟩
    have hS1 := (H0.out.below hb1).drew
    clear H0
    go_wp2_with (fail)
    go_region_held3 (fun w' => StO w v A l.length k w') (first | exact hS4 | exact hS3 | exact hS2 | exact hS1)
      (first
        | (go_at_call 39; (with_reducible refine (CL.out _).mono ?_); rintro e w2 ⟨A2, c2, rfl, ho2, hb2⟩; have hS2 := hS1.below hb2)
        | (go_at_call 40; (with_reducible refine (rrow_is (ha.below hS2.1.1) (by omega) rfl).mono ?_); rintro e w3 ⟨A3, c3, rfl, ho3, hb3⟩; have hS3 := hS2.below hb3)
        | (refine step_appN _ rfl (.tmp 9) (.tmp 12) _ (by rfl) w.heap.size 5 .u8 1 Try.underlying29 inf_b A2 _ c2 _ (by rfl) ((OwnN.mono ho2 hS1.1.1.size).below hb3) A3 _ c3 _ (by rfl) ho3.rd (by simp only [lowF_length]; unfold maxLen; omega) (by simp only [lowF_length]; omega) (hS3.1.1.size) ?_; intro A4 c4 w4 ho4 hg4 _; have hS4 := hS3.app ((OwnN.mono ho2 hS1.1.1.size).below hb3) hg4))
    rename_i hHeldX
    clear hHeldX
    have H4 := Lib.hid (And.intro hS4 ho4)
    clear hS1 hS2 hS3 hS4 ho2 ho3 ho4 hb2 hb3 hg4 h0 h1
    go_wp2_with (fail)
    go_ret2
    exact ⟨A4, c4, by rw [List.length_append]; rfl, by rw [List.length_append]; exact H4.out.2, H4.out.1.1.1⟩
end Go.Proofs.Ytejablcdpakgoaa
