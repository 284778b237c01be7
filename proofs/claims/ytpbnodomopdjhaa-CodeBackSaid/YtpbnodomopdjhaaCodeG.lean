/- What the reference's 'one' answers: the step at the head of bytes. -/
import Derived.Test.YtpbnodomopdjhaaCodeF
import Derived.IntWalk
namespace Go.Proofs.Ytpbnodomopdjhaa
open Go.RowKit Go.Proofs En Cd
set_option linter.unusedVariables false
set_option linter.unusedSimpArgs false

set_option maxHeartbeats 400000 in
theorem copy_any (A : Option Addr) (n c : Nat) (b : List Int) (w : World) (hb : RdN w .u8 A n b) (hn : n ≤ 140737488355328) :
    Calls Try.prog 54 #[.slice A n c] w fun e w' => ∃ A' c', e = .returned (.slice A' n c') ∧ OwnB w' w.heap.size A' n c' b ∧ Below w.heap.size w w' := by
  go_enter Try.func54, Try.ntmps54
  go_wp2_with (at_builtin; refine Stop.mk ?_)
  refine Stop.out ?_
  refine wpList_appN _ rfl (.tmp 4) (.tmp 5) _ rfl w.heap.size 5 .u8 1 Try.underlying23 inf_b none 0 0 [] rfl (OwnN.nil _ _ _ _) A n c b rfl hb (by unfold maxLen; omega) (by omega) (Nat.le_refl _) ?_
  intro A' c' w1 ho hg _
  have hb1 : Below w.heap.size w w1 := (Below.refl _ _).grown hg (Nat.le_refl _) (fun _ h => by cases h)
  rw [Nat.zero_add, List.nil_append] at ho
  have H2 := Lib.hid (And.intro ho hb1)
  clear ho hb1 hg
  go_wp2_with (fail)
  go_ret
  exact ⟨A', c', by simp, H2.out.1, H2.out.2⟩

theorem row_new2 (w : World) (cs : Array Value) (t : TypeId) (o : Obj) : ((w.alloc (.cells cs t)).alloc o).heap[w.heap.size]? = some (.cells cs t (0, 0)) := by
  rw [Below.heap_alloc (w.alloc (.cells cs t)) o _ (by simp)]
  exact heap_alloc_new w _
theorem box_two {w : World} {g : Nat} {v0 v1 : Value} {t : TypeId} (h : w.heap[g]? = some (.cells #[v0, v1] t (0, 0))) :
    w.cell? ⟨g, 0, none⟩ = some v0 ∧ w.cell? ⟨g, 1, none⟩ = some v1 ∧ w.frozen? ⟨g, 0, none⟩ = false ∧ w.frozen? ⟨g, 1, none⟩ = false :=
  ⟨cell_of_row w g 0 _ t (0, 0) h, cell_of_row w g 1 _ t (0, 0) h, frozen_of_row w g 0 _ t h, frozen_of_row w g 1 _ t h⟩
theorem two_set {w : World} {g : Nat} {v0 v1 : Value} {t : TypeId} (h : w.heap[g]? = some (.cells #[v0, v1] t (0, 0))) (u v : Value) :
    (w.setCell ⟨g, 0, none⟩ u).cell? ⟨g, 0, none⟩ = some u ∧ ((w.setCell ⟨g, 0, none⟩ u).setCell ⟨g, 1, none⟩ v).cell? ⟨g, 0, none⟩ = some u ∧ ((w.setCell ⟨g, 0, none⟩ u).setCell ⟨g, 1, none⟩ v).cell? ⟨g, 1, none⟩ = some v := by
  have h1 := heap_setCell_same w g 0 _ t u h
  have h2 := heap_setCell_same _ g 1 _ t v h1
  exact ⟨cell_of_row _ g 0 _ t (0, 0) h1, cell_of_row _ g 0 _ t (0, 0) h2, cell_of_row _ g 1 _ t (0, 0) h2⟩
theorem own_sets {w : World} {base g : Nat} {A : Option Addr} {n c : Nat} {xs : List Int} (h : OwnB w base A n c xs) (hne : blk A ≠ some g) (u v : Value) : OwnB ((w.setCell ⟨g, 0, none⟩ u).setCell ⟨g, 1, none⟩ v) base A n c xs :=
  Own.setOther (Own.setOther h (p := ⟨g, 0, none⟩) hne u) (p := ⟨g, 1, none⟩) hne v

set_option maxRecDepth 10000 in
set_option maxHeartbeats 1000000 in
theorem one_any (A : Option Addr) (n c : Nat) (b : List Int) (w : World) (hb : Arg w A n c b) (h0 : 0 < n) :
    Calls Try.prog 45 #[.slice A n c] w fun e w' => ∃ A' c', e = .returned (.tuple #[.agg #[.int .u8 (stepF b).1.1, .slice A' (stepF b).1.2.length c'], .int .i64 (stepF b).2.1, .int .i64 (stepF b).2.2]) ∧ OwnB w' w.heap.size A' (stepF b).1.2.length c' (stepF b).1.2 ∧ Below w.heap.size w w' := by
  have hl := hb.rd.len
  have hn := hb.len
  have hcap := hb.cap
  have hv := hb.isB.getD 0
  have hv1 := hb.isB.getD 1
  have hv2 := hb.isB.getD 2
  obtain ⟨ad, rfl, hbk, hc0⟩ := hb.rd.at_ h0
  have hc0' : w.cell? ad = some (.int .u8 (b.getD 0 0)) := hc0
  have hb0 : IsB b := hb.isB
  obtain ⟨v, hvv⟩ : ∃ v, v = b.getD 0 0 := ⟨_, rfl⟩
  rw [← hvv] at hc0 hc0' hv
  have hwa : ∀ o, (w.alloc o).cell? ad = some (.int .u8 v) := fun o => by rw [← hc0']; exact World.cell?_of_block (Below.heap_alloc _ _ _ hbk)
  have V := Lib.hid hvv
  have LB := Lib.hid (And.intro hl hb)
  clear hvv hl
  by_cases h1 : v > 128
  · have d1 : decide (v > 128) = true := decide_eq_true h1
    obtain ⟨r, hr⟩ : ∃ r, mayB (v - 127) 0 = r := ⟨_, rfl⟩
    have C := Lib.hid fun w' => rmay_any (v - 127) none 0 0 w' (by omega) (by omega)
    rw [hr] at C
    have R := Lib.hid hr
    clear hr hc0 hb hb0 hv1 hv2
    have e9 : (v - 127) % 256 = v - 127 := by omega
    go_enter Try.func45, Try.ntmps45
    go_wp2_with (fail)
    refine (C.out _).mono ?_
    rintro e w2 ⟨rfl, hb2⟩
    have hbel : Below w.heap.size w w2 := (((Below.refl w.heap.size w).alloc (Nat.le_refl _) _).alloc (by simp) _).trans (hb2.mono (by simp; omega))
    have hrow : w2.heap[w.heap.size]? = some _ := (hb2.block w.heap.size (by simp; omega)).trans (row_new2 w _ _ _)
    have hrow2 : w2.heap[w.heap.size + 1]? = some (.cells #[.int .u8 (v - 127), .slice none 0 0] 55 (0, 0)) := by
      have h := heap_alloc_new (w.alloc (.cells #[.int .u8 0, .slice none 0 0] 55)) (.cells #[.int .u8 (v - 127), .slice none 0 0] 55)
      have e : (w.alloc (.cells #[.int .u8 0, .slice none 0 0] 55)).heap.size = w.heap.size + 1 := by simp
      rw [e] at h
      exact (hb2.block (w.heap.size + 1) (by simp)).trans h
    obtain ⟨k0, k1, f0, f1⟩ := box_two hrow
    obtain ⟨k2, k3, _, _⟩ := box_two hrow2
    have hset := two_set hrow
    have hz := hbel.size
    clear hb2 C hrow hrow2
    cases r with
    | false =>
      have hst : stepF b = ((0, []), 0, 5) := by
        unfold stepF
        rw [← V.out, if_neg (by omega), if_neg (by omega), if_neg]
        intro h
        have := R.out
        unfold mayB at this
        rw [if_neg (by omega)] at this
        exact absurd (of_decide_eq_false this) (by simp; omega)
      have ST := Lib.hid hst
      clear hst
      go_wp2_with (fail)
      refine bodyPost_ret (v := .tuple #[.agg #[.int .u8 0, .slice none 0 0], .int .i64 0, .int .i64 5]) (by simp [results, Try.results45, go_sem, hset]) rfl ?_
      rw [ST.out]
      exact ⟨none, 0, rfl, OwnN.nil _ _ _ _, (hbel.setCell (Nat.le_refl _) _).setCell (Nat.le_refl _) _⟩
    | true =>
      have hst : stepF b = ((v - 127, []), 1, 0) := by
        unfold stepF
        rw [← V.out, if_neg (by omega), if_neg (by omega), if_pos]
        have := R.out
        unfold mayB at this
        rw [if_neg (by omega)] at this
        have := of_decide_eq_true this
        omega
      have ST := Lib.hid hst
      clear hst
      go_wp2_with (fail)
      refine bodyPost_ret (v := .tuple #[.agg #[.int .u8 (v - 127), .slice none 0 0], .int .i64 1, .int .i64 0]) (by simp [results, Try.results45, go_sem, hset]) rfl ?_
      rw [ST.out]
      exact ⟨none, 0, rfl, OwnN.nil _ _ _ _, (hbel.setCell (Nat.le_refl _) _).setCell (Nat.le_refl _) _⟩
  · have d1 : decide (v > 128) = false := decide_eq_false h1
    have hnew := heap_alloc_new w (.cells #[.int .u8 0, .slice none 0 0] 55)
    have hset := two_set hnew
    obtain ⟨k0, k1, f0, f1⟩ := box_two hnew
    by_cases h2 : v = 128
    · have t2 : (v == 128) = true := by rw [beq_iff_eq]; exact h2
      by_cases h3 : n < 3
      · have hst : stepF b = ((0, []), 0, 4) := by unfold stepF; rw [← V.out, if_neg (by omega), if_pos h2, if_pos (by rw [LB.out.1]; exact h3)]
        have ST := Lib.hid hst
        clear hst
        have d3 : decide (n < 3) = true := decide_eq_true h3
        go_enter Try.func45, Try.ntmps45
        go_wp2_with (fail)
        refine bodyPost_ret (v := .tuple #[.agg #[.int .u8 0, .slice none 0 0], .int .i64 0, .int .i64 4]) (by simp [results, Try.results45, go_sem, hset]) rfl ?_
        rw [ST.out]
        exact ⟨none, 0, rfl, OwnN.nil _ _ _ _, ((Below.refl w.heap.size w).alloc (Nat.le_refl _) _)⟩
      · have d3 : decide (n < 3) = false := decide_eq_false h3
        obtain ⟨x1, hx1⟩ : ∃ x, x = b.getD 1 0 := ⟨_, rfl⟩
        obtain ⟨x2, hx2⟩ : ∃ x, x = b.getD 2 0 := ⟨_, rfl⟩
        obtain ⟨_, e1, _, y1⟩ := hb.rd.at_ (show 1 < n by omega)
        obtain ⟨_, e2, _, y2⟩ := hb.rd.at_ (show 2 < n by omega)
        obtain rfl := Option.some.inj e1
        obtain rfl := Option.some.inj e2
        rw [← hx1] at y1 hv1
        rw [← hx2] at y2 hv2
        have z1 : ∀ o, (w.alloc o).cell? (ad.add 1) = some (.int .u8 x1) := fun o => by rw [← y1]; exact World.cell?_of_block (Below.heap_alloc _ _ _ (by rw [block_add]; exact hbk))
        have z2 : ∀ o, (w.alloc o).cell? (ad.add 2) = some (.int .u8 x2) := fun o => by rw [← y2]; exact World.cell?_of_block (Below.heap_alloc _ _ _ (by rw [block_add]; exact hbk))
        have z3 : ∀ o, (w.alloc o).cell? ⟨ad.block, ad.off + 1, none⟩ = some (.int .u8 x1) := z1
        have z4 : ∀ o, (w.alloc o).cell? ⟨ad.block, ad.off + 2, none⟩ = some (.int .u8 x2) := z2
        have hL : longF b = x1 + 256 * x2 := by unfold longF; rw [hx1, hx2]
        have LL := Lib.hid hL
        clear hx1 hx2 hL e1 e2 hc0 y1 y2
        obtain ⟨q, hq⟩ : ∃ q : Nat, x1 + 256 * x2 = q := ⟨(x1 + 256 * x2).toNat, by omega⟩
        have hw1 : IntKind.i64.wrap (256 * x2) = 256 * x2 := IntWalk.i64_in _ (by omega)
        have hw2 : IntKind.i64.wrap (x1 + 256 * x2) = q := by rw [hq]; exact IntWalk.i64_in _ (by omega)
        have hq9 : q ≤ 66000 := by omega
        go_enter Try.func45, Try.ntmps45
        go_wp2_with (fail)
        go_quiet (fail)
        by_cases hbad : q < 128 ∨ 3000 < q
        · have hst : stepF b = ((0, []), 0, 5) := by
            unfold stepF; rw [← V.out, if_neg (by omega), if_pos h2, if_neg (by rw [LB.out.1]; exact h3), LL.out, hq, if_pos (by omega)]
          have ST := Lib.hid hst
          clear hst
          by_cases hlo : q < 128
          · have d4 : decide ((q : Int) < 128) = true := decide_eq_true (by omega)
            clear hbad
            go_wp2_with (fail)
            refine bodyPost_ret (v := .tuple #[.agg #[.int .u8 0, .slice none 0 0], .int .i64 0, .int .i64 5]) (by simp [results, Try.results45, go_sem, hset]) rfl ?_
            rw [ST.out]
            exact ⟨none, 0, rfl, OwnN.nil _ _ _ _, ((belN ((Below.refl w.heap.size w).alloc (Nat.le_refl _) _) _).setCell (Nat.le_refl _) _).setCell (Nat.le_refl _) _⟩
          · have d4 : decide ((q : Int) < 128) = false := decide_eq_false (by omega)
            have d5 : decide ((3000 : Int) < q) = true := decide_eq_true (by omega)
            have i5 : (3000 : Int) < q := by omega
            have i6 : (128 : Int) ≤ q := by omega
            clear hbad
            go_wp2_with (fail)
            refine bodyPost_ret (v := .tuple #[.agg #[.int .u8 0, .slice none 0 0], .int .i64 0, .int .i64 5]) (by simp [results, Try.results45, go_sem, hset]) rfl ?_
            rw [ST.out]
            exact ⟨none, 0, rfl, OwnN.nil _ _ _ _, ((belN ((Below.refl w.heap.size w).alloc (Nat.le_refl _) _) _).setCell (Nat.le_refl _) _).setCell (Nat.le_refl _) _⟩
        · have d4 : decide ((q : Int) < 128) = false := decide_eq_false (by omega)
          have d5 : decide ((3000 : Int) < q) = false := decide_eq_false (by omega)
          have i5 : (q : Int) ≤ 3000 := by omega
          have i6 : (128 : Int) ≤ q := by omega
          have hsf : stepF b = pushF b 3 q := by
            unfold stepF; rw [← V.out, if_neg (by omega), if_pos h2, if_neg (by rw [LB.out.1]; exact h3), LL.out, hq, if_neg (by omega), Int.toNat_natCast]
          have SF := Lib.hid hsf
          clear hsf hbad hq hw1 hw2
          by_cases hsh : n < 3 + q
          · have hst : stepF b = ((0, []), 0, 4) := by
              rw [SF.out]; unfold pushF; rw [if_pos (by rw [LB.out.1]; exact hsh)]
            have ST := Lib.hid hst
            clear hst
            have d7 : decide ((n : Int) - 3 < q) = true := decide_eq_true (by omega)
            go_wp2_with (fail)
            refine bodyPost_ret (v := .tuple #[.agg #[.int .u8 0, .slice none 0 0], .int .i64 0, .int .i64 4]) (by simp [results, Try.results45, go_sem, hset]) rfl ?_
            rw [ST.out]
            exact ⟨none, 0, rfl, OwnN.nil _ _ _ _, ((belN ((Below.refl w.heap.size w).alloc (Nat.le_refl _) _) _).setCell (Nat.le_refl _) _).setCell (Nat.le_refl _) _⟩
          · have hst : stepF b = ((1, (b.drop 3).take q), 3 + q, 0) := by
              rw [SF.out]; unfold pushF; rw [if_neg (by rw [LB.out.1]; exact hsh)]
            have ST := Lib.hid hst
            have d7 : decide ((n : Int) - 3 < q) = false := decide_eq_false (by omega)
            have hsub := hb.rd.sub (lo := 3) (m := q) (by omega)
            have hpl : ((b.drop 3).take q).length = q := by rw [List.length_take, List.length_drop, LB.out.1]; omega
            obtain ⟨p, hp⟩ : ∃ p, p = (b.drop 3).take q := ⟨_, rfl⟩
            rw [← hp] at hsub hpl ST
            clear hst hp
            by_cases hq0 : q = 0
            · exfalso; omega
            · have g1 : c ≠ 3 := by omega
              have g2 : (3 : Nat) ≠ c := by omega
              have HP := Lib.hid hpl
              clear hpl
              go_wp2_with (fail)
              refine (copy_any (some (ad.add 3)) q _ p _ ((hsub.alloc _).drewN _) (by omega)).mono ?_
              rintro e w2 ⟨A', c', rfl, ho, hb2⟩
              have hbel := Below.trans (belN ((Below.refl w.heap.size w).alloc (Nat.le_refl _) _) _) (hb2.mono (by simp))
              have hrow := (hb2.block w.heap.size (by simp)).trans hnew
              have hset2 := two_set hrow
              obtain ⟨k0, k1, f0, f1⟩ := box_two hrow
              have hne : blk A' ≠ some w.heap.size := fun e => by have := (OwnN.lt ho _ e).1; simp at this; omega
              have ho3 := own_sets (OwnN.mono ho (show w.heap.size ≤ _ by simp)) hne
              clear hrow
              go_wp2_with (fail)
              refine bodyPost_ret (v := .tuple #[.agg #[.int .u8 1, .slice A' q c'], .int .i64 (3 + q), .int .i64 0]) (by simp [results, Try.results45, go_sem, hset2]) rfl ?_
              rw [ST.out, HP.out]
              exact ⟨A', c', by simp, ho3 _ _, (hbel.setCell (Nat.le_refl _) _).setCell (Nat.le_refl _) _⟩
    · have t2 : (v == 128) = false := by rw [beq_eq_false_iff_ne]; exact h2
      obtain ⟨q, rfl⟩ := Int.eq_ofNat_of_zero_le hv.1
      have hsf : stepF b = pushF b 1 q := by unfold stepF; rw [← V.out, if_pos (by omega), Int.toNat_natCast]
      have SF := Lib.hid hsf
      clear hsf
      go_enter Try.func45, Try.ntmps45
      by_cases hsh : n < 1 + q
      · have hst : stepF b = ((0, []), 0, 4) := by
          rw [SF.out]; unfold pushF; rw [if_pos (by rw [LB.out.1]; exact hsh)]
        have ST := Lib.hid hst
        clear hst
        have d7 : decide ((n : Int) - 1 < q) = true := decide_eq_true (by omega)
        go_wp2_with (fail)
        refine bodyPost_ret (v := .tuple #[.agg #[.int .u8 0, .slice none 0 0], .int .i64 0, .int .i64 4]) (by simp [results, Try.results45, go_sem, hset]) rfl ?_
        rw [ST.out]
        exact ⟨none, 0, rfl, OwnN.nil _ _ _ _, ((Below.refl w.heap.size w).alloc (Nat.le_refl _) _)⟩
      · have hst : stepF b = ((1, (b.drop 1).take q), 1 + q, 0) := by
          rw [SF.out]; unfold pushF; rw [if_neg (by rw [LB.out.1]; exact hsh)]
        have ST := Lib.hid hst
        have d7 : decide ((n : Int) - 1 < q) = false := decide_eq_false (by omega)
        have hsub := hb.rd.sub (lo := 1) (m := q) (by omega)
        have hpl : ((b.drop 1).take q).length = q := by rw [List.length_take, List.length_drop, LB.out.1]; omega
        obtain ⟨p, hp⟩ : ∃ p, p = (b.drop 1).take q := ⟨_, rfl⟩
        rw [← hp] at hsub hpl ST
        clear hst hp
        by_cases hq0 : q = 0
        · subst hq0
          have hp0 : p = [] := List.eq_nil_of_length_eq_zero hpl
          rw [hp0] at ST
          clear hpl hsub hp0
          by_cases hcf : c = 1
          · have g3 := hcf
            go_wp2_with (fail)
            refine (copy_any _ 0 _ [] _ (RdN.nil _ _ _) (by omega)).mono ?_
            rintro e w2 ⟨A', c', rfl, ho, hb2⟩
            have hbel := Below.trans ((Below.refl w.heap.size w).alloc (Nat.le_refl _) _) (hb2.mono (by simp))
            have hrow := (hb2.block w.heap.size (by simp)).trans hnew
            have hset2 := two_set hrow
            obtain ⟨k0, k1, f0, f1⟩ := box_two hrow
            have hne : blk A' ≠ some w.heap.size := fun e => by have := (OwnN.lt ho _ e).1; simp at this; omega
            have ho3 := own_sets (OwnN.mono ho (show w.heap.size ≤ _ by simp)) hne
            clear hrow
            go_wp2_with (fail)
            refine bodyPost_ret (v := .tuple #[.agg #[.int .u8 1, .slice A' 0 c'], .int .i64 1, .int .i64 0]) (by simp [results, Try.results45, go_sem, hset2]) rfl ?_
            rw [ST.out]
            exact ⟨A', c', rfl, ho3 _ _, (hbel.setCell (Nat.le_refl _) _).setCell (Nat.le_refl _) _⟩
          · have g1 : c ≠ 1 := hcf
            have g2 : (1 : Nat) ≠ c := fun e => hcf e.symm
            go_wp2_with (fail)
            refine (copy_any _ 0 _ [] _ (RdN.nil _ _ _) (by omega)).mono ?_
            rintro e w2 ⟨A', c', rfl, ho, hb2⟩
            have hbel := Below.trans ((Below.refl w.heap.size w).alloc (Nat.le_refl _) _) (hb2.mono (by simp))
            have hrow := (hb2.block w.heap.size (by simp)).trans hnew
            have hset2 := two_set hrow
            obtain ⟨k0, k1, f0, f1⟩ := box_two hrow
            have hne : blk A' ≠ some w.heap.size := fun e => by have := (OwnN.lt ho _ e).1; simp at this; omega
            have ho3 := own_sets (OwnN.mono ho (show w.heap.size ≤ _ by simp)) hne
            clear hrow
            go_wp2_with (fail)
            refine bodyPost_ret (v := .tuple #[.agg #[.int .u8 1, .slice A' 0 c'], .int .i64 1, .int .i64 0]) (by simp [results, Try.results45, go_sem, hset2]) rfl ?_
            rw [ST.out]
            exact ⟨A', c', rfl, ho3 _ _, (hbel.setCell (Nat.le_refl _) _).setCell (Nat.le_refl _) _⟩
        · have g1 : c ≠ 1 := by omega
          have g2 : (1 : Nat) ≠ c := by omega
          have HP := Lib.hid hpl
          clear hpl
          go_wp2_with (fail)
          refine (copy_any (some (ad.add 1)) q _ p _ ((hsub.alloc _)) (by omega)).mono ?_
          rintro e w2 ⟨A', c', rfl, ho, hb2⟩
          have hbel := Below.trans ((Below.refl w.heap.size w).alloc (Nat.le_refl _) _) (hb2.mono (by simp))
          have hrow := (hb2.block w.heap.size (by simp)).trans hnew
          have hset2 := two_set hrow
          obtain ⟨k0, k1, f0, f1⟩ := box_two hrow
          have hne : blk A' ≠ some w.heap.size := fun e => by have := (OwnN.lt ho _ e).1; simp at this; omega
          have ho3 := own_sets (OwnN.mono ho (show w.heap.size ≤ _ by simp)) hne
          clear hrow
          go_wp2_with (fail)
          refine bodyPost_ret (v := .tuple #[.agg #[.int .u8 1, .slice A' q c'], .int .i64 (1 + q), .int .i64 0]) (by simp [results, Try.results45, go_sem, hset2]) rfl ?_
          rw [ST.out, HP.out]
          exact ⟨A', c', by simp, ho3 _ _, (hbel.setCell (Nat.le_refl _) _).setCell (Nat.le_refl _) _⟩
end Go.Proofs.Ytpbnodomopdjhaa
