/- What PutOut and Put answer, in the program and in the reference. -/
import Derived.Test.YtejablcdpakgoaaCoinR
namespace Go.Proofs.Ytejablcdpakgoaa
open Go.RowKit Go.Proofs En Co
set_option linter.unusedVariables false
set_option linter.unusedSimpArgs false
attribute [local go_sem ↓] ld_point_eq ld_coin_eq ld_hash_eq
attribute [local go_sem] ld_point_run ld_coin_run ld_hash_run

def mayN (v : Int) (n : Nat) : Bool := decide (v ≤ 1125899906842624 ∧ n ≤ 100)
theorem mayN_eq (v : Int) (l : List Int) : mayN v l.length = mayO v l := rfl
set_option maxHeartbeats 400000 in
theorem may06_any (v : Int) (A : Option Addr) (n c : Nat) (w : World) (hv : 0 ≤ v ∧ v < 18446744073709551616) (hn : n ≤ 9223372036854775807) :
    Calls Try.prog 32 #[.int .u64 v, .slice A n c] w fun e w' => e = .returned (.bool (mayN v n)) ∧ w = w' := by
  by_cases h1 : v ≤ 1125899906842624
  · have d1 : decide (v ≤ 1125899906842624) = true := decide_eq_true h1
    have hr : mayN v n = decide ((n : Int) ≤ 100) := decide_eq_decide.2 ⟨fun h => by omega, fun h => ⟨h1, by omega⟩⟩
    have R := Lib.hid hr
    clear hr
    go_enter Try.func32, Try.ntmps32
    go_wp2_with (fail)
    go_ret
    exact ⟨by rw [R.out]; rfl, rfl⟩
  · have d1 : decide (v ≤ 1125899906842624) = false := decide_eq_false h1
    have hr : mayN v n = false := decide_eq_false (fun h => h1 h.1)
    have R := Lib.hid hr
    clear hr
    go_enter Try.func32, Try.ntmps32
    go_wp2_with (fail)
    go_ret
    exact ⟨by rw [R.out]; rfl, rfl⟩

set_option maxHeartbeats 400000 in
theorem mayOut_any (v : Int) (A : Option Addr) (n c : Nat) (w : World) (hv : 0 ≤ v ∧ v < 18446744073709551616) (hn : n ≤ 9223372036854775807) :
    Calls Try.prog 38 #[.agg #[.int .u64 v, .slice A n c]] w fun e w' => e = .returned (.bool (mayN v n)) ∧ Below w.heap.size w w' := by
  by_cases h1 : v ≤ 1125899906842624
  · have d1 : decide (v ≤ 1125899906842624) = true := decide_eq_true h1
    have hr : mayN v n = decide ((n : Int) ≤ 100) := decide_eq_decide.2 ⟨fun h => by omega, fun h => ⟨h1, by omega⟩⟩
    have R := Lib.hid hr
    clear hr
    go_enter Try.func38, Try.ntmps38
    go_wp2_with (fail)
    go_ret
    exact ⟨by rw [R.out]; rfl, (Below.refl _ _).alloc (Nat.le_refl _) _⟩
  · have d1 : decide (v ≤ 1125899906842624) = false := decide_eq_false h1
    have hr : mayN v n = false := decide_eq_false (fun h => h1 h.1)
    have R := Lib.hid hr
    clear hr
    go_enter Try.func38, Try.ntmps38
    go_wp2_with (fail)
    go_ret
    exact ⟨by rw [R.out]; rfl, (Below.refl _ _).alloc (Nat.le_refl _) _⟩

/-- what stays while a coin's box is read and memory is made -/
abbrev StC (w : World) (m : Cm) (w' : World) : Prop := St w.heap.size w w.heap.size (.cells (cc m).toArray 31 (0, 0)) w' ∧ w'.cell? ⟨w.heap.size, 34, none⟩ = some (.int .u64 m.c.v) ∧ w'.cell? ⟨w.heap.size, 35, none⟩ = some (.bool m.c.base) ∧ w'.cell? ⟨w.heap.size, 36, none⟩ = some (.slice m.A m.c.l.length m.k) ∧ hasAt w' w.heap.size 0 34 ∧ cellsAt w' w.heap.size 0 34 = (pc m.c.p).toArray
theorem StC.of {w w' : World} {m : Cm} (hp : m.c.p.ok) (h : St w.heap.size w w.heap.size (.cells (cc m).toArray 31 (0, 0)) w') : StC w m w' := by
  obtain ⟨h1, h2, h3, h4⟩ := cc_cells hp h.2
  exact ⟨h, h1, h2, h3, hasAt_of h4 (pc_length hp), cellsAt_of h4 (pc_length hp)⟩
theorem StC.below {w w' w2 : World} {m : Cm} (hp : m.c.p.ok) (h : StC w m w') (hb : Below w'.heap.size w' w2) : StC w m w2 := StC.of hp (h.1.below (Nat.le_refl _) hb)
theorem StC.alloc {w w' : World} {m : Cm} (hp : m.c.p.ok) (h : StC w m w') (o : Obj) : StC w m (w'.alloc o) := StC.of hp (h.1.alloc (Nat.le_refl _) o)
theorem StC.drew {w w' : World} {m : Cm} (hp : m.c.p.ok) (h : StC w m w') : StC w m w'.drew := StC.of hp ⟨h.1.1.drew, h.1.2⟩
theorem StC.app {w w' w2 : World} {m : Cm} {A : Option Addr} {n c : Nat} {q : List Int} (hp : m.c.p.ok) (h : StC w m w') (ho : OwnB w' w.heap.size A n c q) (hg : w'.grownBy w2 (blk A)) : StC w m w2 :=
  StC.of hp (h.1.app (Nat.le_refl _) ho (Nat.le_refl _) (by decide) hg)

theorem putCF_err {c : Cn} (h : mayO c.v c.l = false) : putCF c = ([], 2) := by unfold putCF; rw [if_neg (by rw [h]; decide)]
theorem putCF_ok {c : Cn} (h : mayO c.v c.l = true) : putCF c = (putPF c.p ++ lowF c.v 8 ++ [baseF c.base] ++ rowF c.l, 0) := by unfold putCF; rw [if_pos h]
theorem putPF_length {p : Pt} (h : p.ok) : (putPF p).length = 38 := by unfold putPF; simp [h.len, lowF_length]
theorem rowF_length (b : List Int) : (rowF b).length ≤ b.length + 9 := by
  unfold rowF
  have := countF_len b.length
  rw [List.length_append]
  omega

set_option maxRecDepth 10000 in
set_option maxHeartbeats 1000000 in
theorem put06_any (m : Cm) (w : World) (hm : m.ok w) :
    Calls Try.prog 9 #[.agg (cc m).toArray] w fun e w' => ∃ A k, e = .returned (.tuple #[.slice A (putCF m.c).1.length k, .int .i64 (putCF m.c).2]) ∧ OwnB w' w.heap.size A (putCF m.c).1.length k (putCF m.c).1 ∧ Below w.heap.size w w' := by
  have hv := hm.c.v
  have hn := hm.arg.len
  have hS0 : StC w m (w.alloc (.cells (cc m).toArray 31)) := StC.of hm.c.p ⟨(Below.refl _ _).alloc (Nat.le_refl _) _, heap_alloc_new w _⟩
  have hS1 := hS0.drew hm.c.p
  have h34 := hS0.2.1
  have h36 := hS0.2.2.2.1
  have hmay := mayN_eq m.c.v m.c.l
  have CM := fun w' => may06_any m.c.v m.A m.c.l.length m.k w' hv (by omega)
  rw [hmay] at CM
  clear hmay
  cases hr : mayO m.c.v m.c.l with
  | false =>
    rw [putCF_err hr]
    rw [hr] at CM
    have C := Lib.hid CM
    have BL := Lib.hid hS0.1.1
    clear CM hS0 hS1 hr
    go_enter Try.func9, Try.ntmps9
    go_wp2_with (fail)
    refine (C.out _).mono ?_
    rintro e w1 ⟨rfl, rfl⟩
    go_wp2_with (fail)
    go_ret2
    exact ⟨none, 0, rfl, OwnN.nil _ _ _ _, BL.out⟩
  | true =>
    have hl100 : m.c.l.length ≤ 100 := by unfold mayO at hr; exact (of_decide_eq_true hr).2
    rw [putCF_ok hr]
    rw [hr] at CM
    have C := Lib.hid CM
    have CP := Lib.hid fun w' => putPoint_any m.c.p hm.c.p w'
    have CL := Lib.hid fun w' => clow_is w' hv (putF_8 m.c.v)
    have hu := Try.underlying27
    have hi : (Try.prog.info? 27).map (·.size) = some (pc m.c.p).length := pc_size hm.c.p
    have H0 := Lib.hid hS0
    clear CM hS0 hr hu hi
    go_enter Try.func9, Try.ntmps9
    go_wp2_with (fail)
    refine (C.out _).mono ?_
    rintro e w1 ⟨rfl, rfl⟩
    go_wp2_with (fail)
    go_region_held3 (fun w' => StC w m w') (first | exact hS4 | exact hS3 | exact hS2 | exact hS1)
      (first
        | (go_at_call 17; (with_reducible refine (CP.out _).mono ?_); rintro e w2 ⟨A2, c2, rfl, ho2, hb2⟩; have hS2 := hS1.below hm.c.p hb2)
        | (go_at_call 33; (with_reducible refine (CL.out _).mono ?_); rintro e w3 ⟨A3, c3, rfl, ho3, hb3⟩; have hS3 := hS2.below hm.c.p hb3)
        | (refine step_appN _ rfl (.tmp 13) (.tmp 16) _ (by rfl) w.heap.size 5 .u8 1 Try.underlying29 inf_b A2 38 c2 _ (by rfl) ((OwnN.mono ho2 hS1.1.1.size).below hb3) A3 _ c3 _ (by rfl) ho3.rd (by simp only [lowF_length]; decide) (by simp only [lowF_length]; decide) (hS3.1.1.size) ?_; intro A4 c4 w4 ho4 hg4 _; have hS4 := hS3.app hm.c.p ((OwnN.mono ho2 hS1.1.1.size).below hb3) hg4))
    rename_i hHeldX
    clear hHeldX
    have hb46 : OwnB w4 w.heap.size A4 46 c4 (putPF m.c.p ++ lowF m.c.v 8) := ho4
    have h35 := hS4.2.2.1
    have h36 := hS4.2.2.2.1
    have hz := hS4.1.1.size
    have H4 := Lib.hid (And.intro hS4 hb46)
    have RL := rowF_length m.c.l
    rw [show (lowF m.c.v 8).length = 8 from lowF_length 8 _]
    clear hS1 hS2 hS3 hS4 ho2 ho3 ho4 hb2 hb3 hg4 hb46 C CP CL H0 h34
    cases hbb : m.c.base with
    | true =>
      rw [hbb] at h35
      have HB := Lib.hid hbb
      clear hbb
      go_wp2_with (at_builtin; refine Stop.mk ?_)
      refine Stop.out ?_
      refine wpList_appN _ rfl (.tmp 20) (.tmp 21) _ rfl w.heap.size 5 .u8 1 Try.underlying29 inf_b A4 46 c4 _ rfl (OwnN.alloc H4.out.2 _) (some ⟨w4.heap.size, 0, none⟩) 1 1 [1] rfl (rd_lit w4 [1] 1 (by omega) rfl) (by decide) (by decide) (by simp; omega) ?_
      intro A5 c5 w5 ho5 hg5 _
      have hS5 := (H4.out.1.alloc hm.c.p _).app hm.c.p (OwnN.alloc H4.out.2 _) hg5
      have h36 := hS5.2.2.2.1
      have hz := hS5.1.1.size
      have H5 := Lib.hid (And.intro hS5 ho5)
      clear hS5 ho5 hg5 H4
      go_wp2_with (fail)
      refine (row_is (hm.arg.below H5.out.1.1.1) (by omega) rfl).mono ?_
      rintro e w6 ⟨A6, c6, rfl, ho6, hb6⟩
      have hS6 := H5.out.1.below hm.c.p hb6
      have hz := hS6.1.1.size
      have H6 := Lib.hid (And.intro hS6 (And.intro (OwnN.below H5.out.2 hb6) ho6.rd))
      clear hS6 ho6 hb6 H5
      go_wp2_with (at_builtin; refine Stop.mk ?_)
      refine Stop.out ?_
      refine wpList_appN _ rfl (.tmp 26) (.tmp 29) _ rfl w.heap.size 5 .u8 1 Try.underlying29 inf_b A5 (46 + 1) c5 _ rfl H6.out.2.1 A6 _ c6 _ rfl H6.out.2.2 (by unfold maxLen; omega) (by omega) hz ?_
      intro A7 c7 w7 ho7 hg7 _
      have hS7 := H6.out.1.app hm.c.p H6.out.2.1 hg7
      have H7 := Lib.hid (And.intro hS7 ho7)
      clear hS7 ho7 hg7 H6
      go_wp2_with (fail)
      go_ret2
      have hlen : (putPF m.c.p ++ lowF m.c.v 8 ++ [1] ++ rowF m.c.l).length = 46 + 1 + (rowF m.c.l).length := by simp only [List.length_append, putPF_length hm.c.p, lowF_length]; rfl
      rw [show baseF m.c.base = 1 from by rw [HB.out]; rfl]
      exact ⟨A7, c7, by rw [hlen]; rfl, by rw [hlen]; exact H7.out.2, H7.out.1.1.1⟩
    | false =>
      rw [hbb] at h35
      have HB := Lib.hid hbb
      clear hbb
      go_wp2_with (at_builtin; refine Stop.mk ?_)
      refine Stop.out ?_
      refine wpList_appN _ rfl (.tmp 23) (.tmp 24) _ rfl w.heap.size 5 .u8 1 Try.underlying29 inf_b A4 46 c4 _ rfl (OwnN.alloc H4.out.2 _) (some ⟨w4.heap.size, 0, none⟩) 1 1 [0] rfl (rd_lit w4 [0] 1 (by omega) rfl) (by decide) (by decide) (by simp; omega) ?_
      intro A5 c5 w5 ho5 hg5 _
      have hS5 := (H4.out.1.alloc hm.c.p _).app hm.c.p (OwnN.alloc H4.out.2 _) hg5
      have h36 := hS5.2.2.2.1
      have hz := hS5.1.1.size
      have H5 := Lib.hid (And.intro hS5 ho5)
      clear hS5 ho5 hg5 H4
      go_wp2_with (fail)
      refine (row_is (hm.arg.below H5.out.1.1.1) (by omega) rfl).mono ?_
      rintro e w6 ⟨A6, c6, rfl, ho6, hb6⟩
      have hS6 := H5.out.1.below hm.c.p hb6
      have hz := hS6.1.1.size
      have H6 := Lib.hid (And.intro hS6 (And.intro (OwnN.below H5.out.2 hb6) ho6.rd))
      clear hS6 ho6 hb6 H5
      go_wp2_with (at_builtin; refine Stop.mk ?_)
      refine Stop.out ?_
      refine wpList_appN _ rfl (.tmp 26) (.tmp 29) _ rfl w.heap.size 5 .u8 1 Try.underlying29 inf_b A5 (46 + 1) c5 _ rfl H6.out.2.1 A6 _ c6 _ rfl H6.out.2.2 (by unfold maxLen; omega) (by omega) hz ?_
      intro A7 c7 w7 ho7 hg7 _
      have hS7 := H6.out.1.app hm.c.p H6.out.2.1 hg7
      have H7 := Lib.hid (And.intro hS7 ho7)
      clear hS7 ho7 hg7 H6
      go_wp2_with (fail)
      go_ret2
      have hlen : (putPF m.c.p ++ lowF m.c.v 8 ++ [0] ++ rowF m.c.l).length = 46 + 1 + (rowF m.c.l).length := by simp only [List.length_append, putPF_length hm.c.p, lowF_length]; rfl
      rw [show baseF m.c.base = 0 from by rw [HB.out]; rfl]
      exact ⟨A7, c7, by rw [hlen]; rfl, by rw [hlen]; exact H7.out.2, H7.out.1.1.1⟩
end Go.Proofs.Ytejablcdpakgoaa
