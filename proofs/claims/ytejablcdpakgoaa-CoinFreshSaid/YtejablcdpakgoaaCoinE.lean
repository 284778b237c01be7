/- What Same answers, in the program and in the reference. -/
import Derived.Test.YtejablcdpakgoaaCoinD
namespace Go.Proofs.Ytejablcdpakgoaa
open Go.RowKit Go.Proofs En Co
set_option linter.unusedVariables false
set_option linter.unusedSimpArgs false

theorem cn_ext (a b : Cn) : a = b ↔ a.p = b.p ∧ a.v = b.v ∧ a.base = b.base ∧ a.l = b.l := Cn.ext_iff
theorem cc_size {m : Cm} (h : m.c.p.ok) : (Try.prog.info? 31).map (·.size) = some (cc m).length := by rw [cc_length h]; exact size_coin
theorem pc_size {p : Pt} (h : p.ok) : (Try.prog.info? 27).map (·.size) = some (pc p).length := by rw [pc_length h]; exact size_pt

set_option maxHeartbeats 1000000 in
theorem same06_any (a b : Cm) (w : World) (ha : a.ok w) (hb : b.ok w) :
    Calls Try.prog 19 #[.agg (cc a).toArray, .agg (cc b).toArray] w fun e w' => e = .returned (.bool (decide (a.c = b.c))) ∧ Below w.heap.size w w' := by
  obtain ⟨h0, h1⟩ := two_box w (.cells (cc a).toArray 31) (.cells (cc b).toArray 31)
  have hbel : Below w.heap.size w ((w.alloc (.cells (cc a).toArray 31)).alloc (.cells (cc b).toArray 31)) := belA ((Below.refl _ _).alloc (Nat.le_refl _) _) _ (Nat.le_refl _)
  obtain ⟨av, ab, al, ar⟩ := cc_cells ha.c.p h0
  obtain ⟨bv, bb, bl, br⟩ := cc_cells hb.c.p h1
  have C := Lib.hid (equal_any _ _ a.k a.c.l _ _ b.k b.c.l _ (ha.arg.below hbel).rd (hb.arg.below hbel).rd ha.c.l hb.c.l)
  have AR := Lib.hid (And.intro ar br)
  have BL := Lib.hid hbel
  have hx := cn_ext a.c b.c
  clear h0 h1 hbel ar br
  unfold Cm.lk at al bl
  obtain ⟨r, hr⟩ : ∃ r, decide (a.c = b.c) = r := ⟨_, rfl⟩
  rw [hr]
  by_cases hp : a.c.p = b.c.p
  · have dp : decide (a.c.p = b.c.p) = true := decide_eq_true hp
    have DP := Lib.hid dp
    by_cases hv : a.c.v = b.c.v
    · have dv : (a.c.v == b.c.v) = true := beq_iff_eq.2 hv
      by_cases hq : a.c.base = b.c.base
      · have dq : (a.c.base == b.c.base) = true := beq_iff_eq.2 hq
        have hre : decide (a.c.l = b.c.l) = r := by rw [← hr]; exact decide_eq_decide.2 ⟨fun h => hx.2 ⟨hp, hv, hq, h⟩, fun h => (hx.1 h).2.2.2⟩
        rw [hre] at C
        clear hx hp hv hq hr hre dp
        go_enter Try.func19, Try.ntmps19
        go_wp2_with (with_reducible refine at_load 27 ?_)
        refine Stop.out ?_
        refine wpList_load_mid rfl _ _ rfl w.heap.size 0 rfl (pc a.c.p) _ AR.out.1 Try.underlying27 rfl (pc_size ha.c.p) ?_
        go_wp2_with (with_reducible refine at_load 27 ?_)
        refine Stop.out ?_
        refine wpList_load_mid rfl _ _ rfl (w.heap.size + 1) 0 rfl (pc b.c.p) _ AR.out.2 Try.underlying27 rfl (pc_size hb.c.p) ?_
        go_wp2_with (with_reducible refine at_bin .eql 27 ?_)
        refine Stop.out ?_
        refine wpList_eqagg rfl _ _ _ _ rfl (pc a.c.p).toArray (pc b.c.p).toArray rfl rfl _ (guard_pt _ _ _ _ _ _) (eq_pt _ _ _ ha.c.p hb.c.p) ?_
        rw [DP.out]
        go_wp2_with (fail)
        refine C.out.mono ?_
        rintro e w1 ⟨rfl, rfl⟩
        go_wp2_with (fail)
        go_ret
        exact ⟨rfl, BL.out⟩
      · have dq : (a.c.base == b.c.base) = false := beq_eq_false_iff_ne.2 hq
        have hre : r = false := by rw [← hr]; exact decide_eq_false (fun h => hq (hx.1 h).2.2.1)
        have R := Lib.hid hre
        clear hx hp hv hq hr hre dp
        go_enter Try.func19, Try.ntmps19
        go_wp2_with (with_reducible refine at_load 27 ?_)
        refine Stop.out ?_
        refine wpList_load_mid rfl _ _ rfl w.heap.size 0 rfl (pc a.c.p) _ AR.out.1 Try.underlying27 rfl (pc_size ha.c.p) ?_
        go_wp2_with (with_reducible refine at_load 27 ?_)
        refine Stop.out ?_
        refine wpList_load_mid rfl _ _ rfl (w.heap.size + 1) 0 rfl (pc b.c.p) _ AR.out.2 Try.underlying27 rfl (pc_size hb.c.p) ?_
        go_wp2_with (with_reducible refine at_bin .eql 27 ?_)
        refine Stop.out ?_
        refine wpList_eqagg rfl _ _ _ _ rfl (pc a.c.p).toArray (pc b.c.p).toArray rfl rfl _ (guard_pt _ _ _ _ _ _) (eq_pt _ _ _ ha.c.p hb.c.p) ?_
        rw [DP.out]
        go_wp2_with (fail)
        go_ret
        exact ⟨by rw [R.out]; rfl, BL.out⟩
    · have dv : (a.c.v == b.c.v) = false := beq_eq_false_iff_ne.2 hv
      have hre : r = false := by rw [← hr]; exact decide_eq_false (fun h => hv (hx.1 h).2.1)
      have R := Lib.hid hre
      clear hx hp hv hr hre dp
      go_enter Try.func19, Try.ntmps19
      go_wp2_with (with_reducible refine at_load 27 ?_)
      refine Stop.out ?_
      refine wpList_load_mid rfl _ _ rfl w.heap.size 0 rfl (pc a.c.p) _ AR.out.1 Try.underlying27 rfl (pc_size ha.c.p) ?_
      go_wp2_with (with_reducible refine at_load 27 ?_)
      refine Stop.out ?_
      refine wpList_load_mid rfl _ _ rfl (w.heap.size + 1) 0 rfl (pc b.c.p) _ AR.out.2 Try.underlying27 rfl (pc_size hb.c.p) ?_
      go_wp2_with (with_reducible refine at_bin .eql 27 ?_)
      refine Stop.out ?_
      refine wpList_eqagg rfl _ _ _ _ rfl (pc a.c.p).toArray (pc b.c.p).toArray rfl rfl _ (guard_pt _ _ _ _ _ _) (eq_pt _ _ _ ha.c.p hb.c.p) ?_
      rw [DP.out]
      go_wp2_with (fail)
      go_ret
      exact ⟨by rw [R.out]; rfl, BL.out⟩
  · have dp : decide (a.c.p = b.c.p) = false := decide_eq_false hp
    have DP := Lib.hid dp
    have hre : r = false := by rw [← hr]; exact decide_eq_false (fun h => hp (hx.1 h).1)
    have R := Lib.hid hre
    clear hx hp hr hre dp
    go_enter Try.func19, Try.ntmps19
    go_wp2_with (with_reducible refine at_load 27 ?_)
    refine Stop.out ?_
    refine wpList_load_mid rfl _ _ rfl w.heap.size 0 rfl (pc a.c.p) _ AR.out.1 Try.underlying27 rfl (pc_size ha.c.p) ?_
    go_wp2_with (with_reducible refine at_load 27 ?_)
    refine Stop.out ?_
    refine wpList_load_mid rfl _ _ rfl (w.heap.size + 1) 0 rfl (pc b.c.p) _ AR.out.2 Try.underlying27 rfl (pc_size hb.c.p) ?_
    go_wp2_with (with_reducible refine at_bin .eql 27 ?_)
    refine Stop.out ?_
    refine wpList_eqagg rfl _ _ _ _ rfl (pc a.c.p).toArray (pc b.c.p).toArray rfl rfl _ (guard_pt _ _ _ _ _ _) (eq_pt _ _ _ ha.c.p hb.c.p) ?_
    rw [DP.out]
    go_wp2_with (fail)
    go_ret
    exact ⟨by rw [R.out]; rfl, BL.out⟩

set_option maxHeartbeats 1000000 in
theorem rsame06_any (a b : Cm) (w : World) (ha : a.ok w) (hb : b.ok w) :
    Calls Try.prog 11 #[.agg (cc a).toArray, .agg (cc b).toArray] w fun e w' => e = .returned (.bool (decide (a.c = b.c))) ∧ Below w.heap.size w w' := by
  obtain ⟨h0, h1⟩ := two_box w (.cells (cc a).toArray 31) (.cells (cc b).toArray 31)
  have hbel : Below w.heap.size w ((w.alloc (.cells (cc a).toArray 31)).alloc (.cells (cc b).toArray 31)) := belA ((Below.refl _ _).alloc (Nat.le_refl _) _) _ (Nat.le_refl _)
  obtain ⟨av, ab, al, ar⟩ := cc_cells ha.c.p h0
  obtain ⟨bv, bb, bl, br⟩ := cc_cells hb.c.p h1
  have AR := Lib.hid (And.intro ar br)
  have BL := Lib.hid hbel
  have hx := cn_ext a.c b.c
  clear h0 h1 hbel ar br
  unfold Cm.lk at al bl
  obtain ⟨r, hr⟩ : ∃ r, decide (a.c = b.c) = r := ⟨_, rfl⟩
  rw [hr]
  by_cases hp : a.c.p = b.c.p
  · have dp : decide (a.c.p = b.c.p) = true := decide_eq_true hp
    have DP := Lib.hid dp
    by_cases hv : a.c.v = b.c.v
    · have dv : (a.c.v != b.c.v) = false := by rw [bne_eq_false_iff_eq]; exact hv
      by_cases hq : a.c.base = b.c.base
      · have dq : (a.c.base == b.c.base) = true := beq_iff_eq.2 hq
        have hre : decide (a.c.l = b.c.l) = r := by rw [← hr]; exact decide_eq_decide.2 ⟨fun h => hx.2 ⟨hp, hv, hq, h⟩, fun h => (hx.1 h).2.2.2⟩
        have hla := ha.arg.len
        by_cases hlen : a.c.l.length = b.c.l.length
        · have dl : ((a.c.l.length : Int) != b.c.l.length) = false := by rw [bne_eq_false_iff_eq]; omega
          have LL := Lib.hid (And.intro hre hlen)
          have HA := Lib.hid ha.arg
          have HB := Lib.hid hb.arg
          clear hx hp hv hq hr hre dp hlen
          go_enter Try.func11, Try.ntmps11
          go_wp2_with (with_reducible refine at_load 27 ?_)
          refine Stop.out ?_
          refine wpList_load_mid rfl _ _ rfl w.heap.size 0 rfl (pc a.c.p) _ AR.out.1 Try.underlying27 rfl (pc_size ha.c.p) ?_
          go_wp2_with (with_reducible refine at_load 27 ?_)
          refine Stop.out ?_
          refine wpList_load_mid rfl _ _ rfl (w.heap.size + 1) 0 rfl (pc b.c.p) _ AR.out.2 Try.underlying27 rfl (pc_size hb.c.p) ?_
          go_wp2_with (with_reducible refine at_bin .neq 27 ?_)
          refine Stop.out ?_
          refine wpList_neagg rfl _ _ _ _ rfl (pc a.c.p).toArray (pc b.c.p).toArray rfl rfl _ (guard_pt _ _ _ _ _ _) (ne_pt _ _ _ ha.c.p hb.c.p) ?_
          rw [DP.out]
          go_wp2_with (fail)
          go_loopw [5] (fun i wr => ∃ k : Nat, k ≤ a.c.l.length ∧ i = .int .i64 k ∧ a.c.l.take k = b.c.l.take k ∧ Below w.heap.size w wr ∧ wr.cell? ⟨w.heap.size, 36, none⟩ = some (.slice a.A a.c.l.length a.k) ∧ wr.cell? ⟨w.heap.size + 1, 36, none⟩ = some (.slice b.A b.c.l.length b.k)) (fun i _ => a.c.l.length - (intOf i).toNat)
          case atStart => exact ⟨0, Nat.zero_le _, rfl, by simp, BL.out, al, bl⟩
          case round =>
            clear av ab al bv bb bl
            obtain ⟨k, hk, rfl, ht, hbel, al, bl⟩ := hrel
            by_cases hlt : k < a.c.l.length
            · obtain ⟨ad, hea, hba, hca⟩ := (HA.out.below hbel).rd.at_ hlt
              obtain ⟨bd, heb, hbb, hcb⟩ := (HB.out.below hbel).rd.at_ (show k < b.c.l.length by have := LL.out.2; omega)
              have dlt : decide ((k : Int) < a.c.l.length) = true := decide_eq_true (by omega)
              have dlt' : decide (k < a.c.l.length) = true := decide_eq_true hlt
              have i1 : (k : Int) < b.c.l.length := by have := LL.out.2; omega
              have i0 : (0 : Int) ≤ (k : Int) := by omega
              rw [hea] at al
              rw [heb] at bl
              obtain ⟨x, hx⟩ : ∃ x, a.c.l.getD k 0 = x := ⟨_, rfl⟩
              obtain ⟨y, hy⟩ : ∃ y, b.c.l.getD k 0 = y := ⟨_, rfl⟩
              rw [hx] at hca
              rw [hy] at hcb
              have HH := Lib.hid (And.intro ht (And.intro hbel (And.intro hea (And.intro heb (And.intro hx hy)))))
              clear ht hbel hea heb hx hy
              by_cases hxy : x = y
              · have d1 : (x != y) = false := by rw [bne_eq_false_iff_eq]; exact hxy
                have XY := Lib.hid hxy
                clear hxy
                go_wp2_with (fail)
                go_quiet (fail)
                go_wp2_with (fail)
                go_roundw
                case rel => exact ⟨k + 1, by omega, by go_num, take_eq_snoc hlt (by have := LL.out.2; omega) HH.out.1 (by rw [HH.out.2.2.2.2.1, HH.out.2.2.2.2.2]; exact XY.out), belN HH.out.2.1 _, by rw [HH.out.2.2.1]; exact al, by rw [HH.out.2.2.2.1]; exact bl⟩
                case measure => simp [intOf]; omega
              · have d1 : (x != y) = true := by rw [bne_iff_ne]; exact hxy
                have hrf : r = false := by
                  rw [← LL.out.1]
                  exact decide_eq_false (fun h => hxy (by rw [← HH.out.2.2.2.2.1, ← HH.out.2.2.2.2.2, h]))
                have R := Lib.hid hrf
                clear hxy hrf
                go_wp2_with (fail)
                go_quiet (fail)
                go_wp2_with (fail)
                go_ret
                exact ⟨by rw [R.out]; rfl, belN HH.out.2.1 _⟩
            · have hkk : k = a.c.l.length := by omega
              have hrt : r = true := by
                rw [← LL.out.1]
                rw [hkk, List.take_of_length_le (Nat.le_refl _), LL.out.2, List.take_of_length_le (Nat.le_refl _)] at ht
                exact decide_eq_true ht
              have R := Lib.hid hrt
              have BL := Lib.hid hbel
              have dlt : decide ((k : Int) < a.c.l.length) = false := decide_eq_false (by omega)
              have dlt' : decide (k < a.c.l.length) = false := decide_eq_false hlt
              clear ht hrt hbel hkk
              go_wp2_with (fail)
              go_ret
              exact ⟨by rw [R.out]; rfl, BL.out⟩
        · have dl : ((a.c.l.length : Int) != b.c.l.length) = true := by rw [bne_iff_ne]; omega
          have hrf : r = false := by rw [← hre]; exact decide_eq_false (fun h => hlen (by rw [h]))
          have R := Lib.hid hrf
          clear hx hp hv hq hr hre dp hlen hrf
          go_enter Try.func11, Try.ntmps11
          go_wp2_with (with_reducible refine at_load 27 ?_)
          refine Stop.out ?_
          refine wpList_load_mid rfl _ _ rfl w.heap.size 0 rfl (pc a.c.p) _ AR.out.1 Try.underlying27 rfl (pc_size ha.c.p) ?_
          go_wp2_with (with_reducible refine at_load 27 ?_)
          refine Stop.out ?_
          refine wpList_load_mid rfl _ _ rfl (w.heap.size + 1) 0 rfl (pc b.c.p) _ AR.out.2 Try.underlying27 rfl (pc_size hb.c.p) ?_
          go_wp2_with (with_reducible refine at_bin .neq 27 ?_)
          refine Stop.out ?_
          refine wpList_neagg rfl _ _ _ _ rfl (pc a.c.p).toArray (pc b.c.p).toArray rfl rfl _ (guard_pt _ _ _ _ _ _) (ne_pt _ _ _ ha.c.p hb.c.p) ?_
          rw [DP.out]
          go_wp2_with (fail)
          go_ret
          exact ⟨by rw [R.out]; rfl, BL.out⟩
      · have dq : (a.c.base == b.c.base) = false := beq_eq_false_iff_ne.2 hq
        have hre : r = false := by rw [← hr]; exact decide_eq_false (fun h => hq (hx.1 h).2.2.1)
        have R := Lib.hid hre
        clear hx hp hv hq hr hre dp
        go_enter Try.func11, Try.ntmps11
        go_wp2_with (with_reducible refine at_load 27 ?_)
        refine Stop.out ?_
        refine wpList_load_mid rfl _ _ rfl w.heap.size 0 rfl (pc a.c.p) _ AR.out.1 Try.underlying27 rfl (pc_size ha.c.p) ?_
        go_wp2_with (with_reducible refine at_load 27 ?_)
        refine Stop.out ?_
        refine wpList_load_mid rfl _ _ rfl (w.heap.size + 1) 0 rfl (pc b.c.p) _ AR.out.2 Try.underlying27 rfl (pc_size hb.c.p) ?_
        go_wp2_with (with_reducible refine at_bin .neq 27 ?_)
        refine Stop.out ?_
        refine wpList_neagg rfl _ _ _ _ rfl (pc a.c.p).toArray (pc b.c.p).toArray rfl rfl _ (guard_pt _ _ _ _ _ _) (ne_pt _ _ _ ha.c.p hb.c.p) ?_
        rw [DP.out]
        go_wp2_with (fail)
        go_ret
        exact ⟨by rw [R.out]; rfl, BL.out⟩
    · have dv : (a.c.v != b.c.v) = true := by rw [bne_iff_ne]; exact hv
      have hre : r = false := by rw [← hr]; exact decide_eq_false (fun h => hv (hx.1 h).2.1)
      have R := Lib.hid hre
      clear hx hp hv hr hre dp
      go_enter Try.func11, Try.ntmps11
      go_wp2_with (with_reducible refine at_load 27 ?_)
      refine Stop.out ?_
      refine wpList_load_mid rfl _ _ rfl w.heap.size 0 rfl (pc a.c.p) _ AR.out.1 Try.underlying27 rfl (pc_size ha.c.p) ?_
      go_wp2_with (with_reducible refine at_load 27 ?_)
      refine Stop.out ?_
      refine wpList_load_mid rfl _ _ rfl (w.heap.size + 1) 0 rfl (pc b.c.p) _ AR.out.2 Try.underlying27 rfl (pc_size hb.c.p) ?_
      go_wp2_with (with_reducible refine at_bin .neq 27 ?_)
      refine Stop.out ?_
      refine wpList_neagg rfl _ _ _ _ rfl (pc a.c.p).toArray (pc b.c.p).toArray rfl rfl _ (guard_pt _ _ _ _ _ _) (ne_pt _ _ _ ha.c.p hb.c.p) ?_
      rw [DP.out]
      go_wp2_with (fail)
      go_ret
      exact ⟨by rw [R.out]; rfl, BL.out⟩
  · have dp : decide (a.c.p = b.c.p) = false := decide_eq_false hp
    have DP := Lib.hid dp
    have hre : r = false := by rw [← hr]; exact decide_eq_false (fun h => hp (hx.1 h).1)
    have R := Lib.hid hre
    clear hx hp hr hre dp
    go_enter Try.func11, Try.ntmps11
    go_wp2_with (with_reducible refine at_load 27 ?_)
    refine Stop.out ?_
    refine wpList_load_mid rfl _ _ rfl w.heap.size 0 rfl (pc a.c.p) _ AR.out.1 Try.underlying27 rfl (pc_size ha.c.p) ?_
    go_wp2_with (with_reducible refine at_load 27 ?_)
    refine Stop.out ?_
    refine wpList_load_mid rfl _ _ rfl (w.heap.size + 1) 0 rfl (pc b.c.p) _ AR.out.2 Try.underlying27 rfl (pc_size hb.c.p) ?_
    go_wp2_with (with_reducible refine at_bin .neq 27 ?_)
    refine Stop.out ?_
    refine wpList_neagg rfl _ _ _ _ rfl (pc a.c.p).toArray (pc b.c.p).toArray rfl rfl _ (guard_pt _ _ _ _ _ _) (ne_pt _ _ _ ha.c.p hb.c.p) ?_
    rw [DP.out]
    go_wp2_with (fail)
    go_ret
    exact ⟨by rw [R.out]; rfl, BL.out⟩
end Go.Proofs.Ytejablcdpakgoaa
