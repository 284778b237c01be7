/- The walk of the statement CoinBack. -/
import Derived.Test.YtejablcdpakgoaaCoinU
import Derived.Test.YtejablcdpakgoaaCoinX
import Derived.Test.YtejablcdpakgoaaOpenU
namespace Go.Proofs.Ytejablcdpakgoaa
open Go.RowKit Go.Proofs En Co
set_option linter.unusedVariables false
set_option linter.unusedSimpArgs false
attribute [local go_sem ↓] ld_point_eq ld_coin_eq ld_hash_eq st_point_eq st_coin_eq bd_point_eq bd_coin_eq eq_point_eq ne_point_eq al_coin_eq al_point_eq
attribute [local go_sem] ld_point_run ld_coin_run ld_hash_run st_point_run st_coin_run bd_point_zero bd_coin_zero bd_point_of bd_coin_of hash_at rowIs_34 rowIs_37 rowIs_both hasAt_both cellsAt_both eq_point_run ne_point_run guard_pt al_coin_run al_point_run al_coin_row al_point_row

theorem wrap_i64s {n : Int} (h : -9223372036854775808 ≤ n ∧ n ≤ 9223372036854775807) : IntKind.i64.wrap n = n := by
  rw [IntKind.wrap_i64]; omega
theorem putCF_isB {c : Cn} (hc : c.ok) : IsB (putCF c).1 := by
  cases hr : mayO c.v c.l with
  | false => rw [putCF_err hr]; exact IsB.nil
  | true =>
    rw [putCF_ok hr]
    have hb : IsB [baseF c.base] := isB_dec (by unfold baseF; cases c.base <;> decide)
    refine ((((hc.p.isB.append (lowF_isB _ _)).append (lowF_isB _ _)).append (lowF_isB _ _)).append hb).append ?_
    exact (countF_isB (by omega)).append hc.l

section
variable {H : Type} {enc : TypeId × Value → H} {W : World} {base : Nat} {v : Value} {d : DataW H} {ps : List MemPlace}
theorem arg_coinU (hval : Value.okWide Try.prog W .any base 31 v) (h : DataW.Trod enc Try.prog W 0 (fun _ => true) true 31 v d ps) (hs : Rows.uptoBulk d ≤ 1048576) :
    ∃ m : Cm, v = .agg (cc m).toArray ∧ (m.ok W ∧ m.k ≤ 140737488351232) := arg_coin hval h (Small.of_bulk _ (of_decide_eq_true (by kernel_rfl)) hs)
end

set_option maxRecDepth 20000 in
set_option maxHeartbeats 4000000 in
theorem coinBack_walk (m : Cm) (A : Option Addr) (n ca : Nat) (a : List Int) (B : Option Addr) (nb cb : Nat) (b : List Int) (C : Option Addr) (nd kd0 : Nat) (y : List Int) (w : World)
    (hm' : m.ok w ∧ m.k ≤ 140737488351232) (ha' : Arg w A n ca a ∧ ca ≤ 1048576) (hb' : Arg w B nb cb b ∧ cb ≤ 1048576) (hy' : Arg w C nd kd0 y ∧ kd0 ≤ 1048576) :
    Calls Try.prog 3 #[.agg (cc m).toArray, .slice A n ca, .slice B nb cb, .slice C nd kd0] w fun e w' => e = .returned (.bool true) ∧ Below w.heap.size w w' := by
  obtain ⟨hm, _⟩ := hm'
  obtain ⟨ha, hca⟩ := ha'
  obtain ⟨hb, hcb⟩ := hb'
  obtain ⟨hy, hcy⟩ := hy'
  have la1 := ha.cap
  have lb1 := hb.cap
  have ly1 := hy.cap
  obtain ⟨p, q, h1⟩ : ∃ p q, putCF m.c = (p, q) := ⟨_, _, rfl⟩
  have lp := putCF_len hm.c.p h1
  have hpB : IsB p := by have := putCF_isB hm.c; rw [h1] at this; exact this
  obtain ⟨d, nx, f, h2⟩ : ∃ d x q, getCF y 0 = (d, x, q) := ⟨_, _, _, rfl⟩
  have kd := getCF_ok hy.isB 0
  rw [h2] at kd
  have md := getCF_len y 0
  rw [h2] at md
  simp only at kd md
  have hal : (a.length : Int) = n := by have := ha.rd.len; omega
  have hyl : y.length = nd := by have := hy.rd.len; omega
  have hnx : f = 0 → ∃ k : Nat, nx = k ∧ k ≤ nd ∧ putCF d = (y.take k, 0) := fun e => by
    rw [e] at h2
    obtain ⟨g1, g2, g3⟩ := get_put hy.isB h2
    obtain ⟨k, rfl⟩ := Int.eq_ofNat_of_zero_le g2
    exact ⟨k, rfl, by omega, g1⟩
  have hput : q = 0 → getCF (a ++ p ++ b) n = (m.c, (n : Int) + p.length, 0) := fun e => by
    rw [e] at h1
    have := put_get a b hm.c h1
    rwa [hal] at this
  have L := Lib.hid (And.intro h1 (And.intro h2 (And.intro hput hnx)))
  have f0 := heap_alloc_new w (.cells (cc m).toArray 31)
  have bl0 : Below w.heap.size w (w.alloc (.cells (cc m).toArray 31)) := (Below.refl _ _).alloc (Nat.le_refl _) _
  obtain ⟨x0, y0⟩ := (coin_has hm.c.p f0).1
  have wr : IntKind.i64.wrap ((n : Int) + (p.length : Int)) = n + p.length := wrap_i64s (by omega)
  have dn : ((n : Int) + (p.length : Int) == (n : Int) + (p.length : Int)) = true := beq_self_eq_true _
  clear h1 h2 hput hnx hal
  go_enter Try.func3, Try.ntmps3
  go_wp2_with (fail)
  refine (put06_is (hm.below bl0) L.out.1).mono ?_
  rintro e w1 ⟨A1, c1, rfl, ho1, hb1⟩
  have bl1 := bThen bl0 hb1
  have f1 := kept f0 hb1
  have r1 := ho1.rd
  have hz1 := bl1.size
  clear ho1 hb1 x0 y0 f0 bl0
  by_cases eq : q = 0
  · have dq : (q == 0) = true := by rw [beq_iff_eq]; exact eq
    have HG := Lib.hid (L.out.2.2.1 eq)
    clear eq
    go_wp2_with (at_builtin; refine Stop.mk ?_)
    refine Stop.out ?_
    refine wpList_appN _ rfl (.tmp 27) (.tmp 28) _ rfl w1.heap.size 5 .u8 1 Try.underlying29 inf_b none 0 0 [] rfl (OwnN.nil _ _ _ _) A n ca a rfl (ha.below bl1).rd (by unfold maxLen; omega) (by omega) (Nat.le_refl _) ?_
    intro A3 c3 w3 ho3 hg _
    rw [Nat.zero_add, List.nil_append] at ho3
    rw [Nat.zero_add]
    have hb3 : Below w1.heap.size w1 w3 := (Below.refl _ _).grown hg (Nat.le_refl _) (fun _ h => by cases h)
    have hz3 := hb3.size
    have H3 := Lib.hid (And.intro ho3 hb3)
    clear hb3 hg ho3
    go_wp2_with (at_builtin; refine Stop.mk ?_)
    refine Stop.out ?_
    refine wpList_appN _ rfl (.tmp 29) (.tmp 30) _ rfl w1.heap.size 5 .u8 1 Try.underlying29 inf_b A3 n c3 a rfl H3.out.1 A1 p.length c1 p rfl (r1.below H3.out.2) (by unfold maxLen; omega) (by omega) hz3 ?_
    intro A4 c4 w4 ho4 hg _
    have hb4 : Below w1.heap.size w1 w4 := H3.out.2.grown hg hz3 (fun g hg => (OwnN.lt H3.out.1 g hg).1)
    have hz4 := hb4.size
    have H4 := Lib.hid (And.intro ho4 hb4)
    clear hb4 hg ho4 H3 hz3
    go_wp2_with (at_builtin; refine Stop.mk ?_)
    refine Stop.out ?_
    refine wpList_appN _ rfl (.tmp 31) (.tmp 32) _ rfl w1.heap.size 5 .u8 1 Try.underlying29 inf_b A4 (n + p.length) c4 (a ++ p) rfl H4.out.1 B nb cb b rfl (hb.below (bThen bl1 H4.out.2)).rd (by unfold maxLen; omega) (by omega) hz4 ?_
    intro A5 c5 w5 ho5 hg _
    have hb5 : Below w1.heap.size w1 w5 := H4.out.2.grown hg hz4 (fun g hg => (OwnN.lt H4.out.1 g hg).1)
    have bl5 := bThen bl1 hb5
    have f5 := kept f1 hb5
    have r5 := r1.below hb5
    have hz5 := bl5.size
    have ha5 : Arg w5 A5 (n + p.length + nb) c5 (a ++ p ++ b) := ⟨ho5.rd, (ha.isB.append hpB).append hb.isB, (Own.len_cap ho5).1, (Own.len_cap ho5).2, by omega⟩
    clear hb5 hg ho5 H4 hz4 r1 f1
    go_wp2_with (fail)
    refine (getC_is ha5 (by omega) HG.out).mono ?_
    rintro e w6 ⟨A6, c6, rfl, ho6, hb6⟩
    have bl6 := bThen bl5 hb6
    have f6 := kept f5 hb6
    have hz6 := bl6.size
    have mlen : m.c.l.length ≤ 100 := by have := getCF_len (a ++ p ++ b) n; rw [HG.out] at this; exact this
    have g6 := cm_of hm.c mlen ho6
    have hok6 := cc_ok (m := ⟨m.c, A6, c6⟩) hm.c.p
    have sl := slot_self w6 (.cells (cc zm).toArray 31) (cc ⟨m.c, A6, c6⟩).toArray
    have bl7 := bThen bl6 sl
    have g7 := g6.below sl
    obtain ⟨x6, y6⟩ := (coin_has hm.c.p (kept f6 sl)).1
    obtain ⟨x7, y7⟩ := (coin_has (m := ⟨m.c, A6, c6⟩) hm.c.p (both_row w6 (cc zm).toArray 31 (cc ⟨m.c, A6, c6⟩).toArray)).1
    clear hb6 ho6 f5 f6 ha5 sl g6
    go_wp2_with (fail)
    refine (rsame06_is (r := true) (hm.below bl7) g7 (decide_eq_true rfl)).mono ?_
    rintro e w8 ⟨rfl, hb8⟩
    have bl8 := bThen bl7 hb8
    have hz8 := bl8.size
    clear hb8 x6 y6 x7 y7 g7
    go_wp2_with (fail)
    refine (getC_is (hy.below bl8) (by omega) L.out.2.1).mono ?_
    rintro e w20 ⟨A20, c20, rfl, ho20, hb20⟩
    have bl20 := bThen bl8 hb20
    have g20 := cm_of kd md ho20
    have hok20 := cc_ok (m := ⟨d, A20, c20⟩) kd.p
    have hz20 := bl20.size
    clear hb20 ho20
    have sl := slot_self w20 (.cells (cc zm).toArray 31) (cc ⟨d, A20, c20⟩).toArray
    have bl21 := bThen bl20 sl
    have g21 := g20.below sl
    have f21 := both_row w20 (cc zm).toArray 31 (cc ⟨d, A20, c20⟩).toArray
    by_cases ef : f = 0
    · have df : (f != 0) = false := by rw [bne_eq_false_iff_eq]; exact ef
      obtain ⟨k, rfl, hk, hp2⟩ := L.out.2.2.2 ef
      obtain ⟨x21, y21⟩ := (coin_has (m := ⟨d, A20, c20⟩) kd.p f21).1
      obtain ⟨t, ht⟩ : ∃ t, t = y.take k := ⟨_, rfl⟩
      rw [← ht] at hp2
      have htl : t.length = k := by rw [ht, List.length_take]; omega
      have M := Lib.hid (And.intro ht hp2)
      have j1 : (0 : Int) ≤ (k : Int) := by omega
      have j2 : (k : Int) ≤ (kd0 : Int) := by omega
      have j3 : (k : Int) ≤ (nd : Int) := by omega
      have e1 : decide ((0 : Int) ≤ k) = true := decide_eq_true j1
      have e2 : decide ((k : Int) ≤ nd) = true := decide_eq_true j3
      have e3 : decide ((k : Int) ≥ 0) = true := decide_eq_true j1
      have e4 : decide ((k : Int) < 0) = false := decide_eq_false (by omega)
      have e5 : decide ((nd : Int) < k) = false := decide_eq_false (by omega)
      clear ef ht hp2 f21 g20 sl
      go_wp2_with (fail)
      refine (put06_is g21 M.out.2).mono ?_
      rintro e w22 ⟨A22, c22, rfl, ho22, hb22⟩
      have bl22 := bThen bl21 hb22
      have r22 := ho22.rd
      rw [htl] at r22
      have ry := RdN.pre (hy.below bl22).rd hk
      rw [← M.out.1] at ry
      clear ho22 hb22 x21 y21
      go_wp2_with (fail)
      refine (same_is (r := true) r22 ry (by omega) (decide_eq_true rfl)).mono ?_
      rintro e w23 ⟨rfl, hb23⟩
      have bl23 := bThen bl22 hb23
      clear hb23
      go_wp2_with (fail)
      refine (works06_any _).mono ?_
      rintro e w90 ⟨rfl, hb90⟩
      have bl90 := bThen bl23 hb90
      clear hb90
      go_wp2_with (fail)
      go_ret
      exact ⟨rfl, bl90⟩
    · have df : (f != 0) = true := by rw [bne_iff_ne]; exact ef
      clear ef f21 g20 g21 sl
      go_wp2_with (fail)
      refine (works06_any _).mono ?_
      rintro e w90 ⟨rfl, hb90⟩
      have bl90 := bThen bl21 hb90
      clear hb90
      go_wp2_with (fail)
      go_ret
      exact ⟨rfl, bl90⟩
  · have dq : (q == 0) = false := by rw [beq_eq_false_iff_ne]; exact eq
    clear eq
    go_wp2_with (fail)
    refine (getC_is (hy.below bl1) (by omega) L.out.2.1).mono ?_
    rintro e w20 ⟨A20, c20, rfl, ho20, hb20⟩
    have bl20 := bThen bl1 hb20
    have g20 := cm_of kd md ho20
    have hok20 := cc_ok (m := ⟨d, A20, c20⟩) kd.p
    have hz20 := bl20.size
    clear hb20 ho20
    have sl := slot_self w20 (.cells (cc zm).toArray 31) (cc ⟨d, A20, c20⟩).toArray
    have bl21 := bThen bl20 sl
    have g21 := g20.below sl
    have f21 := both_row w20 (cc zm).toArray 31 (cc ⟨d, A20, c20⟩).toArray
    by_cases ef : f = 0
    · have df : (f != 0) = false := by rw [bne_eq_false_iff_eq]; exact ef
      obtain ⟨k, rfl, hk, hp2⟩ := L.out.2.2.2 ef
      obtain ⟨x21, y21⟩ := (coin_has (m := ⟨d, A20, c20⟩) kd.p f21).1
      obtain ⟨t, ht⟩ : ∃ t, t = y.take k := ⟨_, rfl⟩
      rw [← ht] at hp2
      have htl : t.length = k := by rw [ht, List.length_take]; omega
      have M := Lib.hid (And.intro ht hp2)
      have j1 : (0 : Int) ≤ (k : Int) := by omega
      have j2 : (k : Int) ≤ (kd0 : Int) := by omega
      have j3 : (k : Int) ≤ (nd : Int) := by omega
      have e1 : decide ((0 : Int) ≤ k) = true := decide_eq_true j1
      have e2 : decide ((k : Int) ≤ nd) = true := decide_eq_true j3
      have e3 : decide ((k : Int) ≥ 0) = true := decide_eq_true j1
      have e4 : decide ((k : Int) < 0) = false := decide_eq_false (by omega)
      have e5 : decide ((nd : Int) < k) = false := decide_eq_false (by omega)
      clear ef ht hp2 f21 g20 sl
      go_wp2_with (fail)
      refine (put06_is g21 M.out.2).mono ?_
      rintro e w22 ⟨A22, c22, rfl, ho22, hb22⟩
      have bl22 := bThen bl21 hb22
      have r22 := ho22.rd
      rw [htl] at r22
      have ry := RdN.pre (hy.below bl22).rd hk
      rw [← M.out.1] at ry
      clear ho22 hb22 x21 y21
      go_wp2_with (fail)
      refine (same_is (r := true) r22 ry (by omega) (decide_eq_true rfl)).mono ?_
      rintro e w23 ⟨rfl, hb23⟩
      have bl23 := bThen bl22 hb23
      clear hb23
      go_wp2_with (fail)
      refine (works06_any _).mono ?_
      rintro e w90 ⟨rfl, hb90⟩
      have bl90 := bThen bl23 hb90
      clear hb90
      go_wp2_with (fail)
      go_ret
      exact ⟨rfl, bl90⟩
    · have df : (f != 0) = true := by rw [bne_iff_ne]; exact ef
      clear ef f21 g20 g21 sl
      go_wp2_with (fail)
      refine (works06_any _).mono ?_
      rintro e w90 ⟨rfl, hb90⟩
      have bl90 := bThen bl21 hb90
      clear hb90
      go_wp2_with (fail)
      go_ret
      exact ⟨rfl, bl90⟩
end Go.Proofs.Ytejablcdpakgoaa
