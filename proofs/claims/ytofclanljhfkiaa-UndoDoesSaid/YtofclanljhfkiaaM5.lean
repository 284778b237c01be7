/- Joined texts: CoinE, CoinR, CoinF. -/
import Derived.Test.YtofclanljhfkiaaM4
/- What Same answers, in the program and in the reference. -/
namespace Go.Proofs.Ytofclanljhfkiaa
open Go.RowKit Go.Proofs En Co
set_option linter.unusedVariables false
set_option linter.unusedSimpArgs false
set_option maxRecDepth 20000

theorem cn_ext (a b : Cn) : a = b ↔ a.p = b.p ∧ a.v = b.v ∧ a.base = b.base ∧ a.l = b.l := Cn.ext_iff
theorem cc_size {m : Cm} (h : m.c.p.ok) : (Try.prog.info? 57).map (·.size) = some (cc m).length := by rw [cc_length h]; exact size_coin
theorem pc_size {p : Pt} (h : p.ok) : (Try.prog.info? 54).map (·.size) = some (pc p).length := by rw [pc_length h]; exact size_pt

set_option maxHeartbeats 1000000 in
theorem same06_any (a b : Cm) (w : World) (ha : a.ok w) (hb : b.ok w) :
    Calls Try.prog 67 #[.agg (cc a).toArray, .agg (cc b).toArray] w fun e w' => e = .returned (.bool (decide (a.c = b.c))) ∧ Below w.heap.size w w' := by
  obtain ⟨h0, h1⟩ := two_box w (.cells (cc a).toArray 57) (.cells (cc b).toArray 57)
  have hbel : Below w.heap.size w ((w.alloc (.cells (cc a).toArray 57)).alloc (.cells (cc b).toArray 57)) := belA ((Below.refl _ _).alloc (Nat.le_refl _) _) _ (Nat.le_refl _)
  obtain ⟨av, ab, al, ar⟩ := cc_cells ha.c.p h0
  obtain ⟨bv, bb, bl, br⟩ := cc_cells hb.c.p h1
  have C := Lib.hid (equal_any _ _ a.k a.c.l _ _ b.k b.c.l _ (ha.arg.below hbel).rd (hb.arg.below hbel).rd ha.c.l hb.c.l)
  have AR := Lib.hid (And.intro ar br)
  have BL := Lib.hid hbel
  have hx := cn_ext a.c b.c
  clear h0 h1 hbel ar br
  unfold Cm.lk at al bl
  obtain ⟨r, hr⟩ : ∃ r, decide (a.c = b.c) = r := ⟨_, rfl⟩
  rw [hr]
  by_cases hp : a.c.p = b.c.p
  · have dp : decide (a.c.p = b.c.p) = true := decide_eq_true hp
    have DP := Lib.hid dp
    by_cases hv : a.c.v = b.c.v
    · have dv : (a.c.v == b.c.v) = true := beq_iff_eq.2 hv
      by_cases hq : a.c.base = b.c.base
      · have dq : (a.c.base == b.c.base) = true := beq_iff_eq.2 hq
        have hre : decide (a.c.l = b.c.l) = r := by rw [← hr]; exact decide_eq_decide.2 ⟨fun h => hx.2 ⟨hp, hv, hq, h⟩, fun h => (hx.1 h).2.2.2⟩
        rw [hre] at C
        clear hx hp hv hq hr hre dp
        go_enter Try.func67, Try.ntmps67
        go_wp2_with (with_reducible refine at_load 54 ?_)
        refine Stop.out ?_
        refine wpList_load_mid rfl _ _ rfl w.heap.size 0 rfl (pc a.c.p) _ AR.out.1 Try.underlying54 rfl (pc_size ha.c.p) ?_
        go_wp2_with (with_reducible refine at_load 54 ?_)
        refine Stop.out ?_
        refine wpList_load_mid rfl _ _ rfl (w.heap.size + 1) 0 rfl (pc b.c.p) _ AR.out.2 Try.underlying54 rfl (pc_size hb.c.p) ?_
        go_wp2_with (with_reducible refine at_bin .eql 54 ?_)
        refine Stop.out ?_
        refine wpList_eqagg rfl _ _ _ _ rfl (pc a.c.p).toArray (pc b.c.p).toArray rfl rfl _ (guard_pt _ _ _ _ _ _) (eq_pt _ _ _ ha.c.p hb.c.p) ?_
        rw [DP.out]
        go_wp2_with (fail)
        refine C.out.mono ?_
        rintro e w1 ⟨rfl, rfl⟩
        go_wp2_with (fail)
        go_ret
        exact ⟨rfl, BL.out⟩
      · have dq : (a.c.base == b.c.base) = false := beq_eq_false_iff_ne.2 hq
        have hre : r = false := by rw [← hr]; exact decide_eq_false (fun h => hq (hx.1 h).2.2.1)
        have R := Lib.hid hre
        clear hx hp hv hq hr hre dp
        go_enter Try.func67, Try.ntmps67
        go_wp2_with (with_reducible refine at_load 54 ?_)
        refine Stop.out ?_
        refine wpList_load_mid rfl _ _ rfl w.heap.size 0 rfl (pc a.c.p) _ AR.out.1 Try.underlying54 rfl (pc_size ha.c.p) ?_
        go_wp2_with (with_reducible refine at_load 54 ?_)
        refine Stop.out ?_
        refine wpList_load_mid rfl _ _ rfl (w.heap.size + 1) 0 rfl (pc b.c.p) _ AR.out.2 Try.underlying54 rfl (pc_size hb.c.p) ?_
        go_wp2_with (with_reducible refine at_bin .eql 54 ?_)
        refine Stop.out ?_
        refine wpList_eqagg rfl _ _ _ _ rfl (pc a.c.p).toArray (pc b.c.p).toArray rfl rfl _ (guard_pt _ _ _ _ _ _) (eq_pt _ _ _ ha.c.p hb.c.p) ?_
        rw [DP.out]
        go_wp2_with (fail)
        go_ret
        exact ⟨by rw [R.out]; rfl, BL.out⟩
    · have dv : (a.c.v == b.c.v) = false := beq_eq_false_iff_ne.2 hv
      have hre : r = false := by rw [← hr]; exact decide_eq_false (fun h => hv (hx.1 h).2.1)
      have R := Lib.hid hre
      clear hx hp hv hr hre dp
      go_enter Try.func67, Try.ntmps67
      go_wp2_with (with_reducible refine at_load 54 ?_)
      refine Stop.out ?_
      refine wpList_load_mid rfl _ _ rfl w.heap.size 0 rfl (pc a.c.p) _ AR.out.1 Try.underlying54 rfl (pc_size ha.c.p) ?_
      go_wp2_with (with_reducible refine at_load 54 ?_)
      refine Stop.out ?_
      refine wpList_load_mid rfl _ _ rfl (w.heap.size + 1) 0 rfl (pc b.c.p) _ AR.out.2 Try.underlying54 rfl (pc_size hb.c.p) ?_
      go_wp2_with (with_reducible refine at_bin .eql 54 ?_)
      refine Stop.out ?_
      refine wpList_eqagg rfl _ _ _ _ rfl (pc a.c.p).toArray (pc b.c.p).toArray rfl rfl _ (guard_pt _ _ _ _ _ _) (eq_pt _ _ _ ha.c.p hb.c.p) ?_
      rw [DP.out]
      go_wp2_with (fail)
      go_ret
      exact ⟨by rw [R.out]; rfl, BL.out⟩
  · have dp : decide (a.c.p = b.c.p) = false := decide_eq_false hp
    have DP := Lib.hid dp
    have hre : r = false := by rw [← hr]; exact decide_eq_false (fun h => hp (hx.1 h).1)
    have R := Lib.hid hre
    clear hx hp hr hre dp
    go_enter Try.func67, Try.ntmps67
    go_wp2_with (with_reducible refine at_load 54 ?_)
    refine Stop.out ?_
    refine wpList_load_mid rfl _ _ rfl w.heap.size 0 rfl (pc a.c.p) _ AR.out.1 Try.underlying54 rfl (pc_size ha.c.p) ?_
    go_wp2_with (with_reducible refine at_load 54 ?_)
    refine Stop.out ?_
    refine wpList_load_mid rfl _ _ rfl (w.heap.size + 1) 0 rfl (pc b.c.p) _ AR.out.2 Try.underlying54 rfl (pc_size hb.c.p) ?_
    go_wp2_with (with_reducible refine at_bin .eql 54 ?_)
    refine Stop.out ?_
    refine wpList_eqagg rfl _ _ _ _ rfl (pc a.c.p).toArray (pc b.c.p).toArray rfl rfl _ (guard_pt _ _ _ _ _ _) (eq_pt _ _ _ ha.c.p hb.c.p) ?_
    rw [DP.out]
    go_wp2_with (fail)
    go_ret
    exact ⟨by rw [R.out]; rfl, BL.out⟩

set_option maxHeartbeats 1000000 in
theorem rsame06_any (a b : Cm) (w : World) (ha : a.ok w) (hb : b.ok w) :
    Calls Try.prog 42 #[.agg (cc a).toArray, .agg (cc b).toArray] w fun e w' => e = .returned (.bool (decide (a.c = b.c))) ∧ Below w.heap.size w w' := by
  obtain ⟨h0, h1⟩ := two_box w (.cells (cc a).toArray 57) (.cells (cc b).toArray 57)
  have hbel : Below w.heap.size w ((w.alloc (.cells (cc a).toArray 57)).alloc (.cells (cc b).toArray 57)) := belA ((Below.refl _ _).alloc (Nat.le_refl _) _) _ (Nat.le_refl _)
  obtain ⟨av, ab, al, ar⟩ := cc_cells ha.c.p h0
  obtain ⟨bv, bb, bl, br⟩ := cc_cells hb.c.p h1
  have AR := Lib.hid (And.intro ar br)
  have BL := Lib.hid hbel
  have hx := cn_ext a.c b.c
  clear h0 h1 hbel ar br
  unfold Cm.lk at al bl
  obtain ⟨r, hr⟩ : ∃ r, decide (a.c = b.c) = r := ⟨_, rfl⟩
  rw [hr]
  by_cases hp : a.c.p = b.c.p
  · have dp : decide (a.c.p = b.c.p) = true := decide_eq_true hp
    have DP := Lib.hid dp
    by_cases hv : a.c.v = b.c.v
    · have dv : (a.c.v != b.c.v) = false := by rw [bne_eq_false_iff_eq]; exact hv
      by_cases hq : a.c.base = b.c.base
      · have dq : (a.c.base == b.c.base) = true := beq_iff_eq.2 hq
        have hre : decide (a.c.l = b.c.l) = r := by rw [← hr]; exact decide_eq_decide.2 ⟨fun h => hx.2 ⟨hp, hv, hq, h⟩, fun h => (hx.1 h).2.2.2⟩
        have hla := ha.arg.len
        by_cases hlen : a.c.l.length = b.c.l.length
        · have dl : ((a.c.l.length : Int) != b.c.l.length) = false := by rw [bne_eq_false_iff_eq]; omega
          have LL := Lib.hid (And.intro hre hlen)
          have HA := Lib.hid ha.arg
          have HB := Lib.hid hb.arg
          clear hx hp hv hq hr hre dp hlen
          go_enter Try.func42, Try.ntmps42
          go_wp2_with (with_reducible refine at_load 54 ?_)
          refine Stop.out ?_
          refine wpList_load_mid rfl _ _ rfl w.heap.size 0 rfl (pc a.c.p) _ AR.out.1 Try.underlying54 rfl (pc_size ha.c.p) ?_
          go_wp2_with (with_reducible refine at_load 54 ?_)
          refine Stop.out ?_
          refine wpList_load_mid rfl _ _ rfl (w.heap.size + 1) 0 rfl (pc b.c.p) _ AR.out.2 Try.underlying54 rfl (pc_size hb.c.p) ?_
          go_wp2_with (with_reducible refine at_bin .neq 54 ?_)
          refine Stop.out ?_
          refine wpList_neagg rfl _ _ _ _ rfl (pc a.c.p).toArray (pc b.c.p).toArray rfl rfl _ (guard_pt _ _ _ _ _ _) (ne_pt _ _ _ ha.c.p hb.c.p) ?_
          rw [DP.out]
          go_wp2_with (fail)
          go_loopw [5] (fun i wr => ∃ k : Nat, k ≤ a.c.l.length ∧ i = .int .i64 k ∧ a.c.l.take k = b.c.l.take k ∧ Below w.heap.size w wr ∧ wr.cell? ⟨w.heap.size, 36, none⟩ = some (.slice a.A a.c.l.length a.k) ∧ wr.cell? ⟨w.heap.size + 1, 36, none⟩ = some (.slice b.A b.c.l.length b.k)) (fun i _ => a.c.l.length - (intOf i).toNat)
          case atStart => exact ⟨0, Nat.zero_le _, rfl, by simp, BL.out, al, bl⟩
          case round =>
            clear av ab al bv bb bl
            obtain ⟨k, hk, rfl, ht, hbel, al, bl⟩ := hrel
            by_cases hlt : k < a.c.l.length
            · obtain ⟨ad, hea, hba, hca⟩ := (HA.out.below hbel).rd.at_ hlt
              obtain ⟨bd, heb, hbb, hcb⟩ := (HB.out.below hbel).rd.at_ (show k < b.c.l.length by have := LL.out.2; omega)
              have dlt : decide ((k : Int) < a.c.l.length) = true := decide_eq_true (by omega)
              have dlt' : decide (k < a.c.l.length) = true := decide_eq_true hlt
              have i1 : (k : Int) < b.c.l.length := by have := LL.out.2; omega
              have i0 : (0 : Int) ≤ (k : Int) := by omega
              rw [hea] at al
              rw [heb] at bl
              obtain ⟨x, hx⟩ : ∃ x, a.c.l.getD k 0 = x := ⟨_, rfl⟩
              obtain ⟨y, hy⟩ : ∃ y, b.c.l.getD k 0 = y := ⟨_, rfl⟩
              rw [hx] at hca
              rw [hy] at hcb
              have HH := Lib.hid (And.intro ht (And.intro hbel (And.intro hea (And.intro heb (And.intro hx hy)))))
              clear ht hbel hea heb hx hy
              by_cases hxy : x = y
              · have d1 : (x != y) = false := by rw [bne_eq_false_iff_eq]; exact hxy
                have XY := Lib.hid hxy
                clear hxy
                go_wp2_with (fail)
                go_quiet (fail)
                go_wp2_with (fail)
                go_roundw
                case rel => exact ⟨k + 1, by omega, by go_num, take_eq_snoc hlt (by have := LL.out.2; omega) HH.out.1 (by rw [HH.out.2.2.2.2.1, HH.out.2.2.2.2.2]; exact XY.out), belN HH.out.2.1 _, by rw [HH.out.2.2.1]; exact al, by rw [HH.out.2.2.2.1]; exact bl⟩
                case measure => simp [intOf]; omega
              · have d1 : (x != y) = true := by rw [bne_iff_ne]; exact hxy
                have hrf : r = false := by
                  rw [← LL.out.1]
                  exact decide_eq_false (fun h => hxy (by rw [← HH.out.2.2.2.2.1, ← HH.out.2.2.2.2.2, h]))
                have R := Lib.hid hrf
                clear hxy hrf
                go_wp2_with (fail)
                go_quiet (fail)
                go_wp2_with (fail)
                go_ret
                exact ⟨by rw [R.out]; rfl, belN HH.out.2.1 _⟩
            · have hkk : k = a.c.l.length := by omega
              have hrt : r = true := by
                rw [← LL.out.1]
                rw [hkk, List.take_of_length_le (Nat.le_refl _), LL.out.2, List.take_of_length_le (Nat.le_refl _)] at ht
                exact decide_eq_true ht
              have R := Lib.hid hrt
              have BL := Lib.hid hbel
              have dlt : decide ((k : Int) < a.c.l.length) = false := decide_eq_false (by omega)
              have dlt' : decide (k < a.c.l.length) = false := decide_eq_false hlt
              clear ht hrt hbel hkk
              go_wp2_with (fail)
              go_ret
              exact ⟨by rw [R.out]; rfl, BL.out⟩
        · have dl : ((a.c.l.length : Int) != b.c.l.length) = true := by rw [bne_iff_ne]; omega
          have hrf : r = false := by rw [← hre]; exact decide_eq_false (fun h => hlen (by rw [h]))
          have R := Lib.hid hrf
          clear hx hp hv hq hr hre dp hlen hrf
          go_enter Try.func42, Try.ntmps42
          go_wp2_with (with_reducible refine at_load 54 ?_)
          refine Stop.out ?_
          refine wpList_load_mid rfl _ _ rfl w.heap.size 0 rfl (pc a.c.p) _ AR.out.1 Try.underlying54 rfl (pc_size ha.c.p) ?_
          go_wp2_with (with_reducible refine at_load 54 ?_)
          refine Stop.out ?_
          refine wpList_load_mid rfl _ _ rfl (w.heap.size + 1) 0 rfl (pc b.c.p) _ AR.out.2 Try.underlying54 rfl (pc_size hb.c.p) ?_
          go_wp2_with (with_reducible refine at_bin .neq 54 ?_)
          refine Stop.out ?_
          refine wpList_neagg rfl _ _ _ _ rfl (pc a.c.p).toArray (pc b.c.p).toArray rfl rfl _ (guard_pt _ _ _ _ _ _) (ne_pt _ _ _ ha.c.p hb.c.p) ?_
          rw [DP.out]
          go_wp2_with (fail)
          go_ret
          exact ⟨by rw [R.out]; rfl, BL.out⟩
      · have dq : (a.c.base == b.c.base) = false := beq_eq_false_iff_ne.2 hq
        have hre : r = false := by rw [← hr]; exact decide_eq_false (fun h => hq (hx.1 h).2.2.1)
        have R := Lib.hid hre
        clear hx hp hv hq hr hre dp
        go_enter Try.func42, Try.ntmps42
        go_wp2_with (with_reducible refine at_load 54 ?_)
        refine Stop.out ?_
        refine wpList_load_mid rfl _ _ rfl w.heap.size 0 rfl (pc a.c.p) _ AR.out.1 Try.underlying54 rfl (pc_size ha.c.p) ?_
        go_wp2_with (with_reducible refine at_load 54 ?_)
        refine Stop.out ?_
        refine wpList_load_mid rfl _ _ rfl (w.heap.size + 1) 0 rfl (pc b.c.p) _ AR.out.2 Try.underlying54 rfl (pc_size hb.c.p) ?_
        go_wp2_with (with_reducible refine at_bin .neq 54 ?_)
        refine Stop.out ?_
        refine wpList_neagg rfl _ _ _ _ rfl (pc a.c.p).toArray (pc b.c.p).toArray rfl rfl _ (guard_pt _ _ _ _ _ _) (ne_pt _ _ _ ha.c.p hb.c.p) ?_
        rw [DP.out]
        go_wp2_with (fail)
        go_ret
        exact ⟨by rw [R.out]; rfl, BL.out⟩
    · have dv : (a.c.v != b.c.v) = true := by rw [bne_iff_ne]; exact hv
      have hre : r = false := by rw [← hr]; exact decide_eq_false (fun h => hv (hx.1 h).2.1)
      have R := Lib.hid hre
      clear hx hp hv hr hre dp
      go_enter Try.func42, Try.ntmps42
      go_wp2_with (with_reducible refine at_load 54 ?_)
      refine Stop.out ?_
      refine wpList_load_mid rfl _ _ rfl w.heap.size 0 rfl (pc a.c.p) _ AR.out.1 Try.underlying54 rfl (pc_size ha.c.p) ?_
      go_wp2_with (with_reducible refine at_load 54 ?_)
      refine Stop.out ?_
      refine wpList_load_mid rfl _ _ rfl (w.heap.size + 1) 0 rfl (pc b.c.p) _ AR.out.2 Try.underlying54 rfl (pc_size hb.c.p) ?_
      go_wp2_with (with_reducible refine at_bin .neq 54 ?_)
      refine Stop.out ?_
      refine wpList_neagg rfl _ _ _ _ rfl (pc a.c.p).toArray (pc b.c.p).toArray rfl rfl _ (guard_pt _ _ _ _ _ _) (ne_pt _ _ _ ha.c.p hb.c.p) ?_
      rw [DP.out]
      go_wp2_with (fail)
      go_ret
      exact ⟨by rw [R.out]; rfl, BL.out⟩
  · have dp : decide (a.c.p = b.c.p) = false := decide_eq_false hp
    have DP := Lib.hid dp
    have hre : r = false := by rw [← hr]; exact decide_eq_false (fun h => hp (hx.1 h).1)
    have R := Lib.hid hre
    clear hx hp hr hre dp
    go_enter Try.func42, Try.ntmps42
    go_wp2_with (with_reducible refine at_load 54 ?_)
    refine Stop.out ?_
    refine wpList_load_mid rfl _ _ rfl w.heap.size 0 rfl (pc a.c.p) _ AR.out.1 Try.underlying54 rfl (pc_size ha.c.p) ?_
    go_wp2_with (with_reducible refine at_load 54 ?_)
    refine Stop.out ?_
    refine wpList_load_mid rfl _ _ rfl (w.heap.size + 1) 0 rfl (pc b.c.p) _ AR.out.2 Try.underlying54 rfl (pc_size hb.c.p) ?_
    go_wp2_with (with_reducible refine at_bin .neq 54 ?_)
    refine Stop.out ?_
    refine wpList_neagg rfl _ _ _ _ rfl (pc a.c.p).toArray (pc b.c.p).toArray rfl rfl _ (guard_pt _ _ _ _ _ _) (ne_pt _ _ _ ha.c.p hb.c.p) ?_
    rw [DP.out]
    go_wp2_with (fail)
    go_ret
    exact ⟨by rw [R.out]; rfl, BL.out⟩
end Go.Proofs.Ytofclanljhfkiaa
/- Rules for the walk: a whole point or coin is loaded. -/
namespace Go.Proofs.Ytofclanljhfkiaa
open Go.RowKit Go.Proofs En Co
set_option linter.unusedVariables false
set_option linter.unusedSimpArgs false
set_option maxRecDepth 20000

/-- the n cells of block b from offset o on -/
def cellsAt (w : World) (b o n : Nat) : Array Value := ((List.range n).map fun j => (w.cell? ⟨b, o + j, none⟩).getD undef).toArray
def hasAt (w : World) (b o n : Nat) : Prop := ∀ j, j < n → (w.cell? ⟨b, o + j, none⟩).isSome = true
theorem hasAt_of {w : World} {b o n : Nat} {cs : List Value} (h : w.rangeAt b o cs) (hl : cs.length = n) : hasAt w b o n := by
  intro j hj
  have hjl : j < cs.length := by omega
  rw [h j _ (List.getElem?_eq_getElem hjl)]
  rfl
theorem cellsAt_of {w : World} {b o n : Nat} {cs : List Value} (h : w.rangeAt b o cs) (hl : cs.length = n) : cellsAt w b o n = cs.toArray := by
  unfold cellsAt
  congr 1
  apply List.ext_getElem?
  intro j
  by_cases hj : j < n
  · rw [List.getElem?_map, List.getElem?_range hj]
    have hjl : j < cs.length := by omega
    have hc := List.getElem?_eq_getElem hjl
    rw [Option.map_some, h j _ hc, hc]
    rfl
  · rw [List.getElem?_eq_none (by simp; omega), List.getElem?_eq_none (by omega)]
theorem range_at {w : World} {b o n : Nat} (h : hasAt w b o n) : w.rangeAt b o (cellsAt w b o n).toList := by
  intro j v hv
  unfold cellsAt at hv
  rw [List.toList_toArray, List.getElem?_map] at hv
  by_cases hj : j < n
  · rw [List.getElem?_range hj] at hv
    obtain ⟨u, hu⟩ := Option.isSome_iff_exists.1 (h j hj)
    rw [Option.map_some, hu] at hv
    rw [hu]
    simpa using hv
  · rw [List.getElem?_eq_none (by simp; omega)] at hv
    cases hv
theorem loadAt_rule {P : Program} (T : TypeId) (d : TypeDesc) (n : Nat) (hu : P.underlying T = some d) (hd : d.isRow = true) (hi : (P.info? T).map (·.size) = some n) (w : World) (b o : Nat) (h : hasAt w b o n) :
    (Instr.loadAt T (.pointer (some ⟨b, o, none⟩))).run P w = .ok (.agg (cellsAt w b o n)) w := by
  have hl : (cellsAt w b o n).toList.length = n := by unfold cellsAt; simp
  have := run_loadAt_mid w b o T _ d (range_at h) hu hd (by rw [hl]; exact hi)
  simpa using this
/-- the same, under a name of its own -/
def ld_point (v : Value) : Sem Value := Instr.loadAt 54 v
theorem ld_point_eq (v : Value) : Instr.loadAt 54 v = ld_point v := rfl
theorem ld_point_run (w : World) (b o : Nat) (h : hasAt w b o 34) : (ld_point (.pointer (some ⟨b, o, none⟩))).run Try.prog w = .ok (.agg (cellsAt w b o 34)) w :=
  loadAt_rule _ _ _ Try.underlying54 rfl size_pt w b o h
/-- the same, under a name of its own -/
def ld_coin (v : Value) : Sem Value := Instr.loadAt 57 v
theorem ld_coin_eq (v : Value) : Instr.loadAt 57 v = ld_coin v := rfl
theorem ld_coin_run (w : World) (b o : Nat) (h : hasAt w b o 37) : (ld_coin (.pointer (some ⟨b, o, none⟩))).run Try.prog w = .ok (.agg (cellsAt w b o 37)) w :=
  loadAt_rule _ _ _ Try.underlying57 rfl size_coin w b o h
/-- the same, under a name of its own -/
def ld_hash (v : Value) : Sem Value := Instr.loadAt 50 v
theorem ld_hash_eq (v : Value) : Instr.loadAt 50 v = ld_hash v := rfl
theorem ld_hash_run (w : World) (b o : Nat) (h : hasAt w b o 32) : (ld_hash (.pointer (some ⟨b, o, none⟩))).run Try.prog w = .ok (.agg (cellsAt w b o 32)) w :=
  loadAt_rule _ _ _ Try.underlying50 rfl size_hash w b o h
end Go.Proofs.Ytofclanljhfkiaa
/- What PutOut and Put answer, in the program and in the reference. -/
namespace Go.Proofs.Ytofclanljhfkiaa
open Go.RowKit Go.Proofs En Co
set_option linter.unusedVariables false
set_option linter.unusedSimpArgs false
set_option maxRecDepth 20000
attribute [local go_sem ↓] ld_point_eq ld_coin_eq ld_hash_eq
attribute [local go_sem] ld_point_run ld_coin_run ld_hash_run

def mayN (v : Int) (n : Nat) : Bool := decide (v ≤ 1125899906842624 ∧ n ≤ 100)
theorem mayN_eq (v : Int) (l : List Int) : mayN v l.length = mayO v l := rfl
set_option maxHeartbeats 400000 in
theorem may06_any (v : Int) (A : Option Addr) (n c : Nat) (w : World) (hv : 0 ≤ v ∧ v < 18446744073709551616) (hn : n ≤ 9223372036854775807) :
    Calls Try.prog 95 #[.int .u64 v, .slice A n c] w fun e w' => e = .returned (.bool (mayN v n)) ∧ w = w' := by
  by_cases h1 : v ≤ 1125899906842624
  · have d1 : decide (v ≤ 1125899906842624) = true := decide_eq_true h1
    have hr : mayN v n = decide ((n : Int) ≤ 100) := decide_eq_decide.2 ⟨fun h => by omega, fun h => ⟨h1, by omega⟩⟩
    have R := Lib.hid hr
    clear hr
    go_enter Try.func95, Try.ntmps95
    go_wp2_with (fail)
    go_ret
    exact ⟨by rw [R.out]; rfl, rfl⟩
  · have d1 : decide (v ≤ 1125899906842624) = false := decide_eq_false h1
    have hr : mayN v n = false := decide_eq_false (fun h => h1 h.1)
    have R := Lib.hid hr
    clear hr
    go_enter Try.func95, Try.ntmps95
    go_wp2_with (fail)
    go_ret
    exact ⟨by rw [R.out]; rfl, rfl⟩

set_option maxHeartbeats 400000 in
theorem mayOut_any (v : Int) (A : Option Addr) (n c : Nat) (w : World) (hv : 0 ≤ v ∧ v < 18446744073709551616) (hn : n ≤ 9223372036854775807) :
    Calls Try.prog 74 #[.agg #[.int .u64 v, .slice A n c]] w fun e w' => e = .returned (.bool (mayN v n)) ∧ Below w.heap.size w w' := by
  by_cases h1 : v ≤ 1125899906842624
  · have d1 : decide (v ≤ 1125899906842624) = true := decide_eq_true h1
    have hr : mayN v n = decide ((n : Int) ≤ 100) := decide_eq_decide.2 ⟨fun h => by omega, fun h => ⟨h1, by omega⟩⟩
    have R := Lib.hid hr
    clear hr
    go_enter Try.func74, Try.ntmps74
    go_wp2_with (fail)
    go_ret
    exact ⟨by rw [R.out]; rfl, (Below.refl _ _).alloc (Nat.le_refl _) _⟩
  · have d1 : decide (v ≤ 1125899906842624) = false := decide_eq_false h1
    have hr : mayN v n = false := decide_eq_false (fun h => h1 h.1)
    have R := Lib.hid hr
    clear hr
    go_enter Try.func74, Try.ntmps74
    go_wp2_with (fail)
    go_ret
    exact ⟨by rw [R.out]; rfl, (Below.refl _ _).alloc (Nat.le_refl _) _⟩

/-- what stays while a coin's box is read and memory is made -/
abbrev StC (w : World) (m : Cm) (w' : World) : Prop := St w.heap.size w w.heap.size (.cells (cc m).toArray 57 (0, 0)) w' ∧ w'.cell? ⟨w.heap.size, 34, none⟩ = some (.int .u64 m.c.v) ∧ w'.cell? ⟨w.heap.size, 35, none⟩ = some (.bool m.c.base) ∧ w'.cell? ⟨w.heap.size, 36, none⟩ = some (.slice m.A m.c.l.length m.k) ∧ hasAt w' w.heap.size 0 34 ∧ cellsAt w' w.heap.size 0 34 = (pc m.c.p).toArray
theorem StC.of {w w' : World} {m : Cm} (hp : m.c.p.ok) (h : St w.heap.size w w.heap.size (.cells (cc m).toArray 57 (0, 0)) w') : StC w m w' := by
  obtain ⟨h1, h2, h3, h4⟩ := cc_cells hp h.2
  exact ⟨h, h1, h2, h3, hasAt_of h4 (pc_length hp), cellsAt_of h4 (pc_length hp)⟩
theorem StC.below {w w' w2 : World} {m : Cm} (hp : m.c.p.ok) (h : StC w m w') (hb : Below w'.heap.size w' w2) : StC w m w2 := StC.of hp (h.1.below (Nat.le_refl _) hb)
theorem StC.alloc {w w' : World} {m : Cm} (hp : m.c.p.ok) (h : StC w m w') (o : Obj) : StC w m (w'.alloc o) := StC.of hp (h.1.alloc (Nat.le_refl _) o)
theorem StC.drew {w w' : World} {m : Cm} (hp : m.c.p.ok) (h : StC w m w') : StC w m w'.drew := StC.of hp ⟨h.1.1.drew, h.1.2⟩
theorem StC.app {w w' w2 : World} {m : Cm} {A : Option Addr} {n c : Nat} {q : List Int} (hp : m.c.p.ok) (h : StC w m w') (ho : OwnB w' w.heap.size A n c q) (hg : w'.grownBy w2 (blk A)) : StC w m w2 :=
  StC.of hp (h.1.app (Nat.le_refl _) ho (Nat.le_refl _) (by decide) hg)

theorem putCF_err {c : Cn} (h : mayO c.v c.l = false) : putCF c = ([], 2) := by unfold putCF; rw [if_neg (by rw [h]; decide)]
theorem putCF_ok {c : Cn} (h : mayO c.v c.l = true) : putCF c = (putPF c.p ++ lowF c.v 8 ++ [baseF c.base] ++ rowF c.l, 0) := by unfold putCF; rw [if_pos h]
theorem putPF_length {p : Pt} (h : p.ok) : (putPF p).length = 38 := by unfold putPF; simp [h.len, lowF_length]
theorem rowF_length (b : List Int) : (rowF b).length ≤ b.length + 9 := by
  unfold rowF
  have := countF_len b.length
  rw [List.length_append]
  omega

set_option maxRecDepth 10000 in
set_option maxHeartbeats 1000000 in
theorem put06_any (m : Cm) (w : World) (hm : m.ok w) :
    Calls Try.prog 60 #[.agg (cc m).toArray] w fun e w' => ∃ A k, e = .returned (.tuple #[.slice A (putCF m.c).1.length k, .int .i64 (putCF m.c).2]) ∧ OwnB w' w.heap.size A (putCF m.c).1.length k (putCF m.c).1 ∧ Below w.heap.size w w' := by
  have hv := hm.c.v
  have hn := hm.arg.len
  have hS0 : StC w m (w.alloc (.cells (cc m).toArray 57)) := StC.of hm.c.p ⟨(Below.refl _ _).alloc (Nat.le_refl _) _, heap_alloc_new w _⟩
  have hS1 := hS0.drew hm.c.p
  have h34 := hS0.2.1
  have h36 := hS0.2.2.2.1
  have hmay := mayN_eq m.c.v m.c.l
  have CM := fun w' => may06_any m.c.v m.A m.c.l.length m.k w' hv (by omega)
  rw [hmay] at CM
  clear hmay
  cases hr : mayO m.c.v m.c.l with
  | false =>
    rw [putCF_err hr]
    rw [hr] at CM
    have C := Lib.hid CM
    have BL := Lib.hid hS0.1.1
    clear CM hS0 hS1 hr
    go_enter Try.func60, Try.ntmps60
    go_wp2_with (fail)
    refine (C.out _).mono ?_
    rintro e w1 ⟨rfl, rfl⟩
    go_wp2_with (fail)
    go_ret2
    exact ⟨none, 0, rfl, OwnN.nil _ _ _ _, BL.out⟩
  | true =>
    have hl100 : m.c.l.length ≤ 100 := by unfold mayO at hr; exact (of_decide_eq_true hr).2
    rw [putCF_ok hr]
    rw [hr] at CM
    have C := Lib.hid CM
    have CP := Lib.hid fun w' => putPoint_any m.c.p hm.c.p w'
    have CL := Lib.hid fun w' => clow_is w' hv (putF_8 m.c.v)
    have hu := Try.underlying54
    have hi : (Try.prog.info? 54).map (·.size) = some (pc m.c.p).length := pc_size hm.c.p
    have H0 := Lib.hid hS0
    clear CM hS0 hr hu hi
    go_enter Try.func60, Try.ntmps60
    go_wp2_with (fail)
    refine (C.out _).mono ?_
    rintro e w1 ⟨rfl, rfl⟩
    go_wp2_with (fail)
    go_region_held3 (fun w' => StC w m w') (first | exact hS4 | exact hS3 | exact hS2 | exact hS1)
      (first
        | (go_at_call 61; (with_reducible refine (CP.out _).mono ?_); rintro e w2 ⟨A2, c2, rfl, ho2, hb2⟩; have hS2 := hS1.below hm.c.p hb2)
        | (go_at_call 96; (with_reducible refine (CL.out _).mono ?_); rintro e w3 ⟨A3, c3, rfl, ho3, hb3⟩; have hS3 := hS2.below hm.c.p hb3)
        | (refine step_appN _ rfl (.tmp 13) (.tmp 16) _ (by rfl) w.heap.size 5 .u8 1 Try.underlying40 inf_b A2 38 c2 _ (by rfl) ((OwnN.mono ho2 hS1.1.1.size).below hb3) A3 _ c3 _ (by rfl) ho3.rd (by simp only [lowF_length]; decide) (by simp only [lowF_length]; decide) (hS3.1.1.size) ?_; intro A4 c4 w4 ho4 hg4 _; have hS4 := hS3.app hm.c.p ((OwnN.mono ho2 hS1.1.1.size).below hb3) hg4))
    rename_i hHeldX
    clear hHeldX
    have hb46 : OwnB w4 w.heap.size A4 46 c4 (putPF m.c.p ++ lowF m.c.v 8) := ho4
    have h35 := hS4.2.2.1
    have h36 := hS4.2.2.2.1
    have hz := hS4.1.1.size
    have H4 := Lib.hid (And.intro hS4 hb46)
    have RL := rowF_length m.c.l
    rw [show (lowF m.c.v 8).length = 8 from lowF_length 8 _]
    clear hS1 hS2 hS3 hS4 ho2 ho3 ho4 hb2 hb3 hg4 hb46 C CP CL H0 h34
    cases hbb : m.c.base with
    | true =>
      rw [hbb] at h35
      have HB := Lib.hid hbb
      clear hbb
      go_wp2_with (at_builtin; refine Stop.mk ?_)
      refine Stop.out ?_
      refine wpList_appN _ rfl (.tmp 20) (.tmp 21) _ rfl w.heap.size 5 .u8 1 Try.underlying40 inf_b A4 46 c4 _ rfl (OwnN.alloc H4.out.2 _) (some ⟨w4.heap.size, 0, none⟩) 1 1 [1] rfl (rd_lit w4 [1] 1 (by omega) rfl) (by decide) (by decide) (by simp; omega) ?_
      intro A5 c5 w5 ho5 hg5 _
      have hS5 := (H4.out.1.alloc hm.c.p _).app hm.c.p (OwnN.alloc H4.out.2 _) hg5
      have h36 := hS5.2.2.2.1
      have hz := hS5.1.1.size
      have H5 := Lib.hid (And.intro hS5 ho5)
      clear hS5 ho5 hg5 H4
      go_wp2_with (fail)
      refine (row_is (hm.arg.below H5.out.1.1.1) (by omega) rfl).mono ?_
      rintro e w6 ⟨A6, c6, rfl, ho6, hb6⟩
      have hS6 := H5.out.1.below hm.c.p hb6
      have hz := hS6.1.1.size
      have H6 := Lib.hid (And.intro hS6 (And.intro (OwnN.below H5.out.2 hb6) ho6.rd))
      clear hS6 ho6 hb6 H5
      go_wp2_with (at_builtin; refine Stop.mk ?_)
      refine Stop.out ?_
      refine wpList_appN _ rfl (.tmp 26) (.tmp 29) _ rfl w.heap.size 5 .u8 1 Try.underlying40 inf_b A5 (46 + 1) c5 _ rfl H6.out.2.1 A6 _ c6 _ rfl H6.out.2.2 (by unfold maxLen; omega) (by omega) hz ?_
      intro A7 c7 w7 ho7 hg7 _
      have hS7 := H6.out.1.app hm.c.p H6.out.2.1 hg7
      have H7 := Lib.hid (And.intro hS7 ho7)
      clear hS7 ho7 hg7 H6
      go_wp2_with (fail)
      go_ret2
      have hlen : (putPF m.c.p ++ lowF m.c.v 8 ++ [1] ++ rowF m.c.l).length = 46 + 1 + (rowF m.c.l).length := by simp only [List.length_append, putPF_length hm.c.p, lowF_length]; rfl
      rw [show baseF m.c.base = 1 from by rw [HB.out]; rfl]
      exact ⟨A7, c7, by rw [hlen]; rfl, by rw [hlen]; exact H7.out.2, H7.out.1.1.1⟩
    | false =>
      rw [hbb] at h35
      have HB := Lib.hid hbb
      clear hbb
      go_wp2_with (at_builtin; refine Stop.mk ?_)
      refine Stop.out ?_
      refine wpList_appN _ rfl (.tmp 23) (.tmp 24) _ rfl w.heap.size 5 .u8 1 Try.underlying40 inf_b A4 46 c4 _ rfl (OwnN.alloc H4.out.2 _) (some ⟨w4.heap.size, 0, none⟩) 1 1 [0] rfl (rd_lit w4 [0] 1 (by omega) rfl) (by decide) (by decide) (by simp; omega) ?_
      intro A5 c5 w5 ho5 hg5 _
      have hS5 := (H4.out.1.alloc hm.c.p _).app hm.c.p (OwnN.alloc H4.out.2 _) hg5
      have h36 := hS5.2.2.2.1
      have hz := hS5.1.1.size
      have H5 := Lib.hid (And.intro hS5 ho5)
      clear hS5 ho5 hg5 H4
      go_wp2_with (fail)
      refine (row_is (hm.arg.below H5.out.1.1.1) (by omega) rfl).mono ?_
      rintro e w6 ⟨A6, c6, rfl, ho6, hb6⟩
      have hS6 := H5.out.1.below hm.c.p hb6
      have hz := hS6.1.1.size
      have H6 := Lib.hid (And.intro hS6 (And.intro (OwnN.below H5.out.2 hb6) ho6.rd))
      clear hS6 ho6 hb6 H5
      go_wp2_with (at_builtin; refine Stop.mk ?_)
      refine Stop.out ?_
      refine wpList_appN _ rfl (.tmp 26) (.tmp 29) _ rfl w.heap.size 5 .u8 1 Try.underlying40 inf_b A5 (46 + 1) c5 _ rfl H6.out.2.1 A6 _ c6 _ rfl H6.out.2.2 (by unfold maxLen; omega) (by omega) hz ?_
      intro A7 c7 w7 ho7 hg7 _
      have hS7 := H6.out.1.app hm.c.p H6.out.2.1 hg7
      have H7 := Lib.hid (And.intro hS7 ho7)
      clear hS7 ho7 hg7 H6
      go_wp2_with (fail)
      go_ret2
      have hlen : (putPF m.c.p ++ lowF m.c.v 8 ++ [0] ++ rowF m.c.l).length = 46 + 1 + (rowF m.c.l).length := by simp only [List.length_append, putPF_length hm.c.p, lowF_length]; rfl
      rw [show baseF m.c.base = 0 from by rw [HB.out]; rfl]
      exact ⟨A7, c7, by rw [hlen]; rfl, by rw [hlen]; exact H7.out.2, H7.out.1.1.1⟩
end Go.Proofs.Ytofclanljhfkiaa
