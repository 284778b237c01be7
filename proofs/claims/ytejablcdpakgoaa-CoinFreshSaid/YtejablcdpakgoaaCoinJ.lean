/- What value and GetOut answer, in the program and in the reference. -/
import Derived.Test.YtejablcdpakgoaaCoinI
namespace Go.Proofs.Ytejablcdpakgoaa
open Go.RowKit Go.Proofs En Co
set_option linter.unusedVariables false
set_option linter.unusedSimpArgs false

set_option maxHeartbeats 400000 in
theorem value_is {A : Option Addr} {n c : Nat} {b : List Int} {at_ x q : Int} {w : World} (hb : Arg w A n c b) (ha : -9223372036854775808 ≤ at_ ∧ at_ ≤ 9223372036854775807) (h : valueF b at_ = (x, q)) :
    Calls Try.prog 35 #[.slice A n c, .int .i64 at_] w fun e w' => e = .returned (.tuple #[.int .u64 x, .int .i64 q]) ∧ Below w.heap.size w w' := by
  obtain ⟨v, e, hv⟩ : ∃ v e, getF b at_ 8 = (v, e) := ⟨_, _, rfl⟩
  have hvb := getF_bound hb.isB at_ 8
  rw [hv] at hvb
  have hvb1 : 0 ≤ v := hvb.1
  unfold valueF at h
  rw [hv] at h
  simp only at h
  by_cases he : e = 0
  · have d1 : (e == 0) = true := beq_iff_eq.2 he
    by_cases hm : 1125899906842624 < v
    · rw [if_pos ⟨he, hm⟩] at h
      have d2 : decide (v > 1125899906842624) = true := decide_eq_true hm
      have V := Lib.hid (And.intro hv h)
      clear hv h he hvb
      go_enter Try.func35, Try.ntmps35
      go_wp2_with (fail)
      refine (get_is hb ha (by omega) V.out.1).mono ?_
      rintro e w1 ⟨rfl, hb1⟩
      have BL := Lib.hid hb1
      clear hb1
      go_wp2_with (fail)
      go_ret2
      have h := V.out.2
      injection h with h1 h2
      subst h1 h2
      exact ⟨rfl, BL.out⟩
    · rw [if_neg (fun hh => hm hh.2)] at h
      have d2 : decide (v > 1125899906842624) = false := decide_eq_false hm
      have V := Lib.hid (And.intro hv h)
      clear hv h he hvb
      go_enter Try.func35, Try.ntmps35
      go_wp2_with (fail)
      refine (get_is hb ha (by omega) V.out.1).mono ?_
      rintro e w1 ⟨rfl, hb1⟩
      have BL := Lib.hid hb1
      clear hb1
      go_wp2_with (fail)
      go_ret2
      have h := V.out.2
      injection h with h1 h2
      subst h1 h2
      exact ⟨rfl, BL.out⟩
  · rw [if_neg (fun hh => he hh.1)] at h
    have d1 : (e == 0) = false := beq_eq_false_iff_ne.2 he
    have V := Lib.hid (And.intro hv h)
    clear hv h he hvb
    go_enter Try.func35, Try.ntmps35
    go_wp2_with (fail)
    refine (get_is hb ha (by omega) V.out.1).mono ?_
    rintro e w1 ⟨rfl, hb1⟩
    have BL := Lib.hid hb1
    clear hb1
    go_wp2_with (fail)
    go_ret2
    have h := V.out.2
    injection h with h1 h2
    subst h1 h2
    exact ⟨rfl, BL.out⟩

theorem two_set6 {w : World} {g : Nat} {v0 v1 : Value} {t : TypeId} (h : w.heap[g]? = some (.cells #[v0, v1] t (0, 0))) (u v : Value) :
    (w.setCell ⟨g, 0, none⟩ u).cell? ⟨g, 0, none⟩ = some u ∧ ((w.setCell ⟨g, 0, none⟩ u).setCell ⟨g, 1, none⟩ v).cell? ⟨g, 0, none⟩ = some u ∧ ((w.setCell ⟨g, 0, none⟩ u).setCell ⟨g, 1, none⟩ v).cell? ⟨g, 1, none⟩ = some v := by
  have h1 := heap_setCell_same w g 0 _ t u h
  have h2 := heap_setCell_same _ g 1 _ t v h1
  exact ⟨cell_of_row _ g 0 _ t (0, 0) h1, cell_of_row _ g 0 _ t (0, 0) h2, cell_of_row _ g 1 _ t (0, 0) h2⟩
theorem box_two6 {w : World} {g : Nat} {v0 v1 : Value} {t : TypeId} (h : w.heap[g]? = some (.cells #[v0, v1] t (0, 0))) :
    w.cell? ⟨g, 0, none⟩ = some v0 ∧ w.cell? ⟨g, 1, none⟩ = some v1 ∧ w.frozen? ⟨g, 0, none⟩ = false ∧ w.frozen? ⟨g, 1, none⟩ = false :=
  ⟨cell_of_row w g 0 _ t (0, 0) h, cell_of_row w g 1 _ t (0, 0) h, frozen_of_row w g 0 _ t h, frozen_of_row w g 1 _ t h⟩
theorem own_sets6 {w : World} {base g : Nat} {A : Option Addr} {n c : Nat} {xs : List Int} (h : OwnB w base A n c xs) (hne : blk A ≠ some g) (u v : Value) : OwnB ((w.setCell ⟨g, 0, none⟩ u).setCell ⟨g, 1, none⟩ v) base A n c xs :=
  Own.setOther (Own.setOther h (p := ⟨g, 0, none⟩) hne u) (p := ⟨g, 1, none⟩) hne v
theorem getRowF_isB {b : List Int} (hB : IsB b) (at_ most : Int) : IsB (getRowF b at_ most).1 := by
  unfold getRowF
  split
  · split
    · exact IsB.nil
    · split
      · exact partF_isB hB _ _
      · exact IsB.nil
  · exact IsB.nil
theorem getRowF_small {b : List Int} {at_ : Int} {p : List Int} {nx q : Int} (h : getRowF b at_ 100 = (p, nx, q)) : p.length ≤ 100 := by
  unfold getRowF at h
  split at h
  · split at h
    · injection h with h1 _; rw [← h1]; exact Nat.zero_le _
    · rename_i h2
      split at h
      · rename_i h3
        injection h with h1 _
        have := partF_length h3
        rw [← h1]
        omega
      · injection h with h1 _; rw [← h1]; exact Nat.zero_le _
  · injection h with h1 _; rw [← h1]; exact Nat.zero_le _
theorem valueF_in {b : List Int} {at_ x : Int} (h : valueF b at_ = (x, 0)) : 0 ≤ at_ ∧ at_ + 8 ≤ b.length ∧ x ≤ maxM := by
  unfold valueF at h
  split at h
  · injection h with _ h; exact absurd h (by decide)
  · rename_i hc
    have h0 : (getF b at_ 8).2 = 0 := by rw [h]
    have := getF_in h0
    refine ⟨this.1, this.2.2, ?_⟩
    rw [h] at hc
    exact Int.not_lt.1 (fun hh => hc ⟨rfl, hh⟩)
theorem valueF_bd {b : List Int} (hB : IsB b) (at_ : Int) : 0 ≤ (valueF b at_).1 ∧ (valueF b at_).1 < 18446744073709551616 := by
  have := getF_bound hB at_ 8
  unfold valueF
  split <;> exact ⟨this.1, this.2.2⟩

set_option maxRecDepth 10000 in
set_option maxHeartbeats 1000000 in
theorem getOut_any (A : Option Addr) (n c : Nat) (b : List Int) (at_ : Int) (w : World) (hb : Arg w A n c b) (ha : -9223372036854775808 ≤ at_ ∧ at_ ≤ 9223372036854775807) :
    Calls Try.prog 22 #[.slice A n c, .int .i64 at_] w fun e w' => ∃ A' k, e = .returned (.tuple #[.agg #[.int .u64 (getOF b at_).1, .slice A' (getOF b at_).2.1.length k], .int .i64 (getOF b at_).2.2.1, .int .i64 (getOF b at_).2.2.2]) ∧ OwnB w' w.heap.size A' (getOF b at_).2.1.length k (getOF b at_).2.1 ∧ Below w.heap.size w w' := by
  have hlen := hb.rd.len
  have hn := hb.len
  obtain ⟨x, q, hv⟩ : ∃ x q, valueF b at_ = (x, q) := ⟨_, _, rfl⟩
  have hxb := valueF_bd hb.isB at_
  rw [hv] at hxb

  by_cases hq : q = 0
  · subst hq
    have hin := valueF_in hv
    have hx1 : 0 ≤ x := hxb.1
    have hx2 : x ≤ 1125899906842624 := hin.2.2
    obtain ⟨p, nx, e2, hr⟩ : ∃ p nx e2, getRowF b (at_ + 8) 100 = (p, nx, e2) := ⟨_, _, _, rfl⟩
    have hps := getRowF_small hr
    have i1 : at_ + 8 ≤ 9223372036854775807 := by omega
    have i2 : 0 ≤ at_ := hin.1
    have V := Lib.hid (And.intro hv hr)
    by_cases he2 : e2 = 0
    · have ho : getOF b at_ = (x, p, nx, 0) := by unfold getOF; rw [hv, if_pos rfl, hr, if_pos he2]
      rw [ho]
      subst he2
      clear hv hr ho hlen hin hxb 
      go_enter Try.func22, Try.ntmps22
      go_wp2_with (fail)
      refine (value_is (hb.below ((Below.refl w.heap.size w).alloc (Nat.le_refl _) _)) ha V.out.1).mono ?_
      rintro e w1 ⟨rfl, hb1⟩
      have hrow : w1.heap[w.heap.size]? = some _ := (hb1.block w.heap.size (by simp)).trans (heap_alloc_new w _)
      have hbl : Below w.heap.size w w1 := ((Below.refl w.heap.size w).alloc (Nat.le_refl _) _).trans (hb1.mono (by simp))
      have hlt := (Array.getElem?_eq_some_iff.1 hrow).1
      have HR := Lib.hid hrow
      clear hrow hb1
      go_wp2_with (fail)
      refine (getRow_is (hb.below hbl) (by omega) (by omega) V.out.2).mono ?_
      rintro e w2 ⟨A2, c2, rfl, ho2, hb2⟩
      have hrow := (hb2.block w.heap.size hlt).trans HR.out
      have hown := OwnN.mono ho2 hbl.size
      have hne : blk A2 ≠ some w.heap.size := fun h => by have := (OwnN.lt ho2 _ h).1; omega
      obtain ⟨k0, k1, f0, f1⟩ := box_two6 hrow
      have hset := two_set6 hrow
      have HO := Lib.hid (And.intro (own_sets6 hown hne) (bThen hbl hb2))
      clear hrow HR hbl hb2 ho2 hown hne
      go_wp2_with (fail)
      refine bodyPost_ret (v := .tuple #[.agg #[.int .u64 x, .slice A2 p.length c2], .int .i64 nx, .int .i64 0]) (by simp [results, Try.results22, go_sem, hset]) rfl ?_
      exact ⟨A2, c2, rfl, HO.out.1 _ _, (HO.out.2.setCell (Nat.le_refl _) _).setCell (Nat.le_refl _) _⟩
    · have ho : getOF b at_ = (0, [], 0, e2) := by unfold getOF; rw [hv, if_pos rfl, hr, if_neg he2]
      have hp0 : p = [] := by have := getRowF_err (b := b) (at_ := at_ + 8) (most := 100) (by rw [hr]; exact he2); rw [hr] at this; exact this
      subst hp0
      rw [ho]
      have d2 : (e2 != 0) = true := by rw [bne_iff_ne]; exact he2
      clear hv hr ho hlen hin hxb he2 
      go_enter Try.func22, Try.ntmps22
      go_wp2_with (fail)
      refine (value_is (hb.below ((Below.refl w.heap.size w).alloc (Nat.le_refl _) _)) ha V.out.1).mono ?_
      rintro e w1 ⟨rfl, hb1⟩
      have hrow : w1.heap[w.heap.size]? = some _ := (hb1.block w.heap.size (by simp)).trans (heap_alloc_new w _)
      have hbl : Below w.heap.size w w1 := ((Below.refl w.heap.size w).alloc (Nat.le_refl _) _).trans (hb1.mono (by simp))
      have hlt := (Array.getElem?_eq_some_iff.1 hrow).1
      have HR := Lib.hid hrow
      clear hrow hb1
      go_wp2_with (fail)
      refine (getRow_is (hb.below hbl) (by omega) (by omega) V.out.2).mono ?_
      rintro e w2 ⟨A2, c2, rfl, ho2, hb2⟩
      have hrow := (hb2.block w.heap.size hlt).trans HR.out
      have hbl := bThen hbl hb2
      clear HR hb2 ho2
      obtain ⟨k0, k1, f0, f1⟩ := box_two6 hrow
      have hset := two_set6 hrow
      have BL := Lib.hid hbl
      clear hrow hbl
      go_wp2_with (fail)
      refine bodyPost_ret (v := .tuple #[.agg #[.int .u64 0, .slice none 0 0], .int .i64 0, .int .i64 e2]) (by simp [results, Try.results22, go_sem, hset]) rfl ?_
      exact ⟨none, 0, rfl, OwnN.nil _ _ _ _, (BL.out.setCell (Nat.le_refl _) _).setCell (Nat.le_refl _) _⟩
  · have ho : getOF b at_ = (0, [], 0, q) := by unfold getOF; rw [hv, if_neg hq]
    rw [ho]
    have d2 : (q != 0) = true := by rw [bne_iff_ne]; exact hq
    have V := Lib.hid (And.intro hv trivial)
    clear hv ho hlen hxb hq
    go_enter Try.func22, Try.ntmps22
    go_wp2_with (fail)
    refine (value_is (hb.below ((Below.refl w.heap.size w).alloc (Nat.le_refl _) _)) ha V.out.1).mono ?_
    rintro e w1 ⟨rfl, hb1⟩
    have hrow : w1.heap[w.heap.size]? = some _ := (hb1.block w.heap.size (by simp)).trans (heap_alloc_new w _)
    have hbl : Below w.heap.size w w1 := ((Below.refl w.heap.size w).alloc (Nat.le_refl _) _).trans (hb1.mono (by simp))
    clear hb1
    obtain ⟨k0, k1, f0, f1⟩ := box_two6 hrow
    have hset := two_set6 hrow
    have BL := Lib.hid hbl
    clear hrow hbl
    go_wp2_with (fail)
    refine bodyPost_ret (v := .tuple #[.agg #[.int .u64 0, .slice none 0 0], .int .i64 0, .int .i64 q]) (by simp [results, Try.results22, go_sem, hset]) rfl ?_
    exact ⟨none, 0, rfl, OwnN.nil _ _ _ _, (BL.out.setCell (Nat.le_refl _) _).setCell (Nat.le_refl _) _⟩

set_option maxRecDepth 10000 in
set_option maxHeartbeats 1000000 in
theorem rgetOut_any (A : Option Addr) (n c : Nat) (b : List Int) (at_ : Int) (w : World) (hb : Arg w A n c b) (ha : -9223372036854775808 ≤ at_ ∧ at_ ≤ 9223372036854775807) :
    Calls Try.prog 23 #[.slice A n c, .int .i64 at_] w fun e w' => ∃ A' k, e = .returned (.tuple #[.agg #[.int .u64 (getOF b at_).1, .slice A' (getOF b at_).2.1.length k], .int .i64 (getOF b at_).2.2.1, .int .i64 (getOF b at_).2.2.2]) ∧ OwnB w' w.heap.size A' (getOF b at_).2.1.length k (getOF b at_).2.1 ∧ Below w.heap.size w w' := by
  have hlen := hb.rd.len
  have hn := hb.len
  obtain ⟨x, q, hv⟩ : ∃ x q, valueF b at_ = (x, q) := ⟨_, _, rfl⟩
  have hxb := valueF_bd hb.isB at_
  rw [hv] at hxb

  obtain ⟨x', q', hg⟩ : ∃ x q, getF b at_ 8 = (x, q) := ⟨_, _, rfl⟩
  have hvg := hv
  unfold valueF at hvg
  rw [hg] at hvg
  simp only at hvg

  by_cases hq : q = 0
  · subst hq
    have hin := valueF_in hv
    have hx1 : 0 ≤ x := hxb.1
    have hx2 : x ≤ 1125899906842624 := hin.2.2
    obtain ⟨p, nx, e2, hr⟩ : ∃ p nx e2, getRowF b (at_ + 8) 100 = (p, nx, e2) := ⟨_, _, _, rfl⟩
    have hps := getRowF_small hr
    have i1 : at_ + 8 ≤ 9223372036854775807 := by omega
    have i2 : 0 ≤ at_ := hin.1
    have hvv : x' = x ∧ q' = 0 := by
      split at hvg
      · injection hvg with _ h; exact absurd h (by decide)
      · injection hvg with h1 h2; exact ⟨h1, h2⟩
    obtain ⟨rfl, rfl⟩ := hvv
    have dm : decide (x' > 1125899906842624) = false := decide_eq_false (by omega)
    have V := Lib.hid (And.intro hg hr)
    by_cases he2 : e2 = 0
    · have ho : getOF b at_ = (x', p, nx, 0) := by unfold getOF; rw [hv, if_pos rfl, hr, if_pos he2]
      rw [ho]
      subst he2
      clear hv hr ho hlen hin hxb hg hvg
      go_enter Try.func23, Try.ntmps23
      go_wp2_with (fail)
      refine (rget_is (hb.below ((Below.refl w.heap.size w).alloc (Nat.le_refl _) _)) ha (by omega) V.out.1).mono ?_
      rintro e w1 ⟨rfl, hb1⟩
      have hrow : w1.heap[w.heap.size]? = some _ := (hb1.block w.heap.size (by simp)).trans (heap_alloc_new w _)
      have hbl : Below w.heap.size w w1 := ((Below.refl w.heap.size w).alloc (Nat.le_refl _) _).trans (hb1.mono (by simp))
      have hlt := (Array.getElem?_eq_some_iff.1 hrow).1
      have HR := Lib.hid hrow
      clear hrow hb1
      go_wp2_with (fail)
      refine (rgetRow_is (hb.below hbl) (by omega) (by omega) V.out.2).mono ?_
      rintro e w2 ⟨A2, c2, rfl, ho2, hb2⟩
      have hrow := (hb2.block w.heap.size hlt).trans HR.out
      have hown := OwnN.mono ho2 hbl.size
      have hne : blk A2 ≠ some w.heap.size := fun h => by have := (OwnN.lt ho2 _ h).1; omega
      obtain ⟨k0, k1, f0, f1⟩ := box_two6 hrow
      have hset := two_set6 hrow
      have HO := Lib.hid (And.intro (own_sets6 hown hne) (bThen hbl hb2))
      clear hrow HR hbl hb2 ho2 hown hne
      go_wp2_with (fail)
      refine bodyPost_ret (v := .tuple #[.agg #[.int .u64 x', .slice A2 p.length c2], .int .i64 nx, .int .i64 0]) (by simp [results, Try.results23, go_sem, hset]) rfl ?_
      exact ⟨A2, c2, rfl, HO.out.1 _ _, (HO.out.2.setCell (Nat.le_refl _) _).setCell (Nat.le_refl _) _⟩
    · have ho : getOF b at_ = (0, [], 0, e2) := by unfold getOF; rw [hv, if_pos rfl, hr, if_neg he2]
      have hp0 : p = [] := by have := getRowF_err (b := b) (at_ := at_ + 8) (most := 100) (by rw [hr]; exact he2); rw [hr] at this; exact this
      subst hp0
      rw [ho]
      have d2 : (e2 != 0) = true := by rw [bne_iff_ne]; exact he2
      clear hv hr ho hlen hin hxb he2 hg hvg
      go_enter Try.func23, Try.ntmps23
      go_wp2_with (fail)
      refine (rget_is (hb.below ((Below.refl w.heap.size w).alloc (Nat.le_refl _) _)) ha (by omega) V.out.1).mono ?_
      rintro e w1 ⟨rfl, hb1⟩
      have hrow : w1.heap[w.heap.size]? = some _ := (hb1.block w.heap.size (by simp)).trans (heap_alloc_new w _)
      have hbl : Below w.heap.size w w1 := ((Below.refl w.heap.size w).alloc (Nat.le_refl _) _).trans (hb1.mono (by simp))
      have hlt := (Array.getElem?_eq_some_iff.1 hrow).1
      have HR := Lib.hid hrow
      clear hrow hb1
      go_wp2_with (fail)
      refine (rgetRow_is (hb.below hbl) (by omega) (by omega) V.out.2).mono ?_
      rintro e w2 ⟨A2, c2, rfl, ho2, hb2⟩
      have hrow := (hb2.block w.heap.size hlt).trans HR.out
      have hbl := bThen hbl hb2
      clear HR hb2 ho2
      obtain ⟨k0, k1, f0, f1⟩ := box_two6 hrow
      have hset := two_set6 hrow
      have BL := Lib.hid hbl
      clear hrow hbl
      go_wp2_with (fail)
      refine bodyPost_ret (v := .tuple #[.agg #[.int .u64 0, .slice none 0 0], .int .i64 0, .int .i64 e2]) (by simp [results, Try.results23, go_sem, hset]) rfl ?_
      exact ⟨none, 0, rfl, OwnN.nil _ _ _ _, (BL.out.setCell (Nat.le_refl _) _).setCell (Nat.le_refl _) _⟩
  · have ho : getOF b at_ = (0, [], 0, q) := by unfold getOF; rw [hv, if_neg hq]
    rw [ho]
    have V := Lib.hid (And.intro hg trivial)
    by_cases hq' : q' = 0
    · have hxm : 1125899906842624 < x' := by
        by_cases hm : maxM < x'
        · exact hm
        · rw [if_neg (fun h => hm h.2)] at hvg; injection hvg with _ h; exact absurd (h.symm.trans hq') hq
      have hq5 : q = 5 := by rw [if_pos ⟨hq', hxm⟩] at hvg; injection hvg with _ h; exact h.symm
      subst hq5
      have d2 : (q' != 0) = false := by rw [bne_eq_false_iff_eq]; exact hq'
      have dm : decide (x' > 1125899906842624) = true := decide_eq_true hxm
      clear hv ho hlen hxb hq hg hvg hq'
      go_enter Try.func23, Try.ntmps23
      go_wp2_with (fail)
      refine (rget_is (hb.below ((Below.refl w.heap.size w).alloc (Nat.le_refl _) _)) ha (by omega) V.out.1).mono ?_
      rintro e w1 ⟨rfl, hb1⟩
      have hrow : w1.heap[w.heap.size]? = some _ := (hb1.block w.heap.size (by simp)).trans (heap_alloc_new w _)
      have hbl : Below w.heap.size w w1 := ((Below.refl w.heap.size w).alloc (Nat.le_refl _) _).trans (hb1.mono (by simp))
      clear hb1
      obtain ⟨k0, k1, f0, f1⟩ := box_two6 hrow
      have hset := two_set6 hrow
      have BL := Lib.hid hbl
      clear hrow hbl
      go_wp2_with (fail)
      refine bodyPost_ret (v := .tuple #[.agg #[.int .u64 0, .slice none 0 0], .int .i64 0, .int .i64 5]) (by simp [results, Try.results23, go_sem, hset]) rfl ?_
      exact ⟨none, 0, rfl, OwnN.nil _ _ _ _, (BL.out.setCell (Nat.le_refl _) _).setCell (Nat.le_refl _) _⟩
    · have hqq : q' = q := by rw [if_neg (fun h => hq' h.1)] at hvg; injection hvg with _ h
      subst hqq
      have d2 : (q' != 0) = true := by rw [bne_iff_ne]; exact hq'
      clear hv ho hlen hxb hq hg hvg hq'
      go_enter Try.func23, Try.ntmps23
      go_wp2_with (fail)
      refine (rget_is (hb.below ((Below.refl w.heap.size w).alloc (Nat.le_refl _) _)) ha (by omega) V.out.1).mono ?_
      rintro e w1 ⟨rfl, hb1⟩
      have hrow : w1.heap[w.heap.size]? = some _ := (hb1.block w.heap.size (by simp)).trans (heap_alloc_new w _)
      have hbl : Below w.heap.size w w1 := ((Below.refl w.heap.size w).alloc (Nat.le_refl _) _).trans (hb1.mono (by simp))
      clear hb1
      obtain ⟨k0, k1, f0, f1⟩ := box_two6 hrow
      have hset := two_set6 hrow
      have BL := Lib.hid hbl
      clear hrow hbl
      go_wp2_with (fail)
      refine bodyPost_ret (v := .tuple #[.agg #[.int .u64 0, .slice none 0 0], .int .i64 0, .int .i64 q']) (by simp [results, Try.results23, go_sem, hset]) rfl ?_
      exact ⟨none, 0, rfl, OwnN.nil _ _ _ _, (BL.out.setCell (Nat.le_refl _) _).setCell (Nat.le_refl _) _⟩
end Go.Proofs.Ytejablcdpakgoaa
