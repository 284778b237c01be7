/- Joined texts: UnR, UnS, UnT. -/
import Derived.Test.YtofclanljhfkiaaM28
import Derived.Test.YtofclanljhfkiaaM23
import Derived.Test.YtofclanljhfkiaaM17
import Derived.Test.YtofclanljhfkiaaM26
import Derived.Test.YtofclanljhfkiaaM18
/- UndoOnce: the walk. -/
namespace Go.Proofs.Ytofclanljhfkiaa
open Go.RowKit Go.Proofs En Co
set_option linter.unusedVariables false
set_option linter.unusedSimpArgs false
set_option maxRecDepth 20000
attribute [local go_sem] nil_bytes nil_coins

/-- a table and an undo in a box -/
structure US (w wr : World) (g : Nat) (P : Option Addr) (ps : List (List Cn)) (b : Nat) (A : Option Addr) (n d : Nat) (hs : List Cm) (A2 : Option Addr) (n2 d2 : Nat) (ys : List Pt) : Prop where
  bel : Below w.heap.size w wr
  tb : Tb wr w.heap.size g P ps
  box : wr.heap[b]? = some (.cells #[.slice A n d, .slice A2 n2 d2] 25 (0, 0))
  sp : OwnP wr w.heap.size A n d hs
  md : OwnQ wr w.heap.size A2 n2 d2 ys
section
variable {w wr w2 : World} {g b n d n2 d2 : Nat} {P P' A A2 : Option Addr} {ps qs : List (List Cn)} {hs : List Cm} {ys : List Pt}
theorem US.below (h : US w wr g P ps b A n d hs A2 n2 d2 ys) (hb : Below wr.heap.size wr w2) : US w w2 g P ps b A n d hs A2 n2 d2 ys :=
  ⟨bThen h.bel hb, h.tb.below hb, kept h.box hb, h.sp.below hb, h.md.below hb⟩
theorem US.only (h : US w wr g P ps b A n d hs A2 n2 d2 ys) (ho : Only wr w2 g P) (ht : Tb w2 w.heap.size g P' qs) : US w w2 g P' qs b A n d hs A2 n2 d2 ys :=
  ⟨h.bel.trans (h.tb.frame ho), ht, ho.boxU h.tb.kinds h.box (by decide) (by decide), h.sp.only ho h.tb.kinds, ⟨Own.only h.md.row ho h.tb.kinds (by decide) (by decide), h.md.ok, h.md.len⟩⟩
theorem US.firmP (h : US w wr g P ps b A n d hs A2 n2 d2 ys) (base : Nat) : FirmP wr base ⟨A, n, d, hs⟩ := OwnP.firm (x := ⟨A, n, d, hs⟩) h.sp
end

set_option maxRecDepth 20000 in
set_option maxHeartbeats 4000000 in
theorem undoOnce_walk (B : Option Addr) (n c : Nat) (hs : List Cm) (B2 : Option Addr) (n2 c2 : Nat) (ks : List Cm) (w : World) (hl : FirmP w w.heap.size ⟨B, n, c, hs⟩ ∧ c ≤ 1759218604392) (hm : FirmP w w.heap.size ⟨B2, n2, c2, ks⟩ ∧ c2 ≤ 1759218604392) :
    Calls Try.prog 14 #[.slice B n c, .slice B2 n2 c2] w fun e w' => e = .returned (.bool true) ∧ Below w.heap.size w w' := by
  have BO := Lib.hid (both_any hl.1.arg hl.2)
  have hn2c : n2 ≤ c2 := hm.1.arg.cap
  have hc2 := hm.2
  have M := Lib.hid hm.1
  clear hl hm
  go_enter Try.func14, Try.ntmps14
  go_wp2_with (fail)
  refine BO.out.mono ?_
  rintro e w1 ⟨g, P, h, Q, ps, rfl, pr, ham, hb1⟩
  have DO := do_m pr.t (FirmQ.nil _ _) (M.out.below hb1)
  obtain ⟨qs, cs, pts, q, hr⟩ : ∃ qs cs pts q, doM ps [] (cns ks) = (qs, cs, pts, q) := ⟨_, _, _, _, rfl⟩
  rw [hr] at DO
  have DO := Lib.hid DO
  have S1 := Lib.hid (And.intro pr.t (And.intro ham (And.intro hb1 hr)))
  clear pr ham hb1 hr
  go_wp2_with (fail)
  refine DO.out.mono ?_
  rintro e w2 ⟨A, m1, d1, us, A2, m2, d2, rfl, hoP, hcs, hoQ, P', hT, hk, ho⟩
  simp only at hcs hoQ hT
  have l3 : Below w2.heap.size w2 (w2.alloc (.cells #[.slice A m1 d1, .slice A2 m2 d2] 25)) := (Below.refl _ _).alloc (Nat.le_refl _) _
  have s3 : US w (w2.alloc (.cells #[.slice A m1 d1, .slice A2 m2 d2] 25)) g P' qs w2.heap.size A m1 d1 us A2 m2 d2 pts :=
    ⟨bThen (S1.out.2.2.1.trans (S1.out.1.frame ho)) l3, hT.below l3, heap_alloc_new w2 _, hoP.below l3, hoQ.below l3⟩
  have hrise := S1.out.1.rise
  have hmost := S1.out.1.most
  by_cases hq0 : q = 0
  · have dq : (q == 0) = true := by rw [hq0]; rfl
    have dq2 : (q != 0) = false := by rw [hq0]; rfl
    by_cases hn0 : n2 = 0
    · have dn : ((n2 : Int) == 0) = true := by rw [hn0]; rfl
      have S3 := Lib.hid s3.bel
      clear s3 l3 hoP hcs hoQ hT hk ho hrise hq0 hn0
      go_wp2_with (fail)
      refine (works25_any _).mono ?_
      rintro e w4 ⟨rfl, hb4⟩
      have B4 := Lib.hid (bThen S3.out hb4)
      clear hb4
      go_wp2_with (fail)
      go_ret
      exact ⟨rfl, B4.out⟩
    · have dn : ((n2 : Int) == 0) = false := by simp; omega
      obtain ⟨y, r, hyr⟩ : ∃ y r, cns ks = y :: r := by
        have := M.out.arg.len
        cases hks : ks with
        | nil => rw [hks] at this; exact absurd this.symm hn0
        | cons a b => exact ⟨_, _, rfl⟩
      have hrr := S1.out.2.2.2
      rw [hq0] at hrr
      obtain ⟨u1, u2, rs, u3, u4⟩ := done_undone hrise hmost S1.out.2.1 hT.rise hrr
      have hc0 : cs = [] := List.eq_nil_of_length_eq_zero u2
      subst hc0
      rw [u1, hyr] at hrr
      have u5 := undone_twice hrr u4
      rw [hyr] at u1
      rw [← u1] at u5
      have BK := back_m s3.tb (s3.firmP _) (s3.md.firm _)
      rw [hcs, u3] at BK
      have BK := Lib.hid BK
      have x0 := (row_cells s3.box 0).1
      have x1 := (row_cells s3.box 1).1
      have S3 := Lib.hid (And.intro s3 (And.intro u5 hcs))
      clear s3 l3 hoP hoQ hT hk ho hrise hq0 hn0 u1 u2 u3 u4 u5 hrr hcs hyr
      go_wp2_with (fail)
      refine BK.out.mono ?_
      rintro e w4 ⟨rfl, P4, hT4, hk4, ho4⟩
      have s4 := S3.out.1.only ho4 hT4
      have BY := Lib.hid (bytes_m s4.tb)
      have S4 := Lib.hid s4
      clear s4 hT4 hk4 ho4 x0 x1
      go_wp2_with (fail)
      refine BY.out.mono ?_
      rintro e w5 ⟨D, d5, rfl, ho5, hb5⟩
      have s5 := S4.out.below hb5
      have BK2 := back_m s5.tb (s5.firmP _) (s5.md.firm _)
      rw [S3.out.2.2, S3.out.2.1] at BK2
      have BK2 := Lib.hid BK2
      have x0 := (row_cells s5.box 0).1
      have x1 := (row_cells s5.box 1).1
      have S5 := Lib.hid (And.intro s5 (OwnN.mono ho5 S4.out.bel.size))
      clear s5 ho5 hb5
      go_wp2_with (fail)
      refine BK2.out.mono ?_
      rintro e w6 ⟨rfl, P6, hT6, hk6, ho6⟩
      have s6 := S5.out.1.only ho6 hT6
      have o6 := Own.only S5.out.2 ho6 S5.out.1.tb.kinds (by decide) (by decide)
      have BY2 := Lib.hid (bytes_m s6.tb)
      have S6 := Lib.hid (And.intro s6 o6)
      clear s6 o6 hT6 hk6 ho6 x0 x1
      go_wp2_with (fail)
      refine BY2.out.mono ?_
      rintro e w7 ⟨D7, d7, rfl, ho7, hb7⟩
      have s7 := S6.out.1.below hb7
      have hlt : (tableF rs).length ≤ 9223372036854775807 := by
        have := ho7.len_cap
        unfold maxLen at this
        omega
      have SM := Lib.hid (same_is (c := d7) (d := d5) (r := true) (OwnN.rd ho7) (OwnN.rd (OwnN.below S6.out.2 hb7)) hlt (by simp))
      have S7 := Lib.hid s7.bel
      clear s7 ho7 hb7 hlt
      go_wp2_with (fail)
      refine SM.out.mono ?_
      rintro e w8 ⟨rfl, hb8⟩
      have S8 := Lib.hid (bThen S7.out hb8)
      clear hb8
      go_wp2_with (fail)
      refine (works25_any _).mono ?_
      rintro e w9 ⟨rfl, hb9⟩
      have B9 := Lib.hid (bThen S8.out hb9)
      clear hb9
      go_wp2_with (fail)
      go_ret
      exact ⟨rfl, B9.out⟩
  · have dq : (q == 0) = false := by simpa using hq0
    have dq2 : (q != 0) = true := by simpa using hq0
    have S3 := Lib.hid s3.bel
    clear s3 l3 hoP hcs hoQ hT hk ho hrise hq0
    go_wp2_with (fail)
    refine (works25_any _).mono ?_
    rintro e w4 ⟨rfl, hb4⟩
    have B4 := Lib.hid (bThen S3.out hb4)
    clear hb4
    go_wp2_with (fail)
    go_ret
    exact ⟨rfl, B4.out⟩
end Go.Proofs.Ytofclanljhfkiaa
/- undo.Same: the same coins, the same points. -/
namespace Go.Proofs.Ytofclanljhfkiaa
open Go.RowKit Go.Proofs En Co
set_option linter.unusedVariables false
set_option linter.unusedSimpArgs false
set_option maxRecDepth 20000
attribute [local go_sem ↓] ld_point_eq ld_coin_eq ld_hash_eq st_point_eq st_coin_eq bd_point_eq bd_coin_eq eq_point_eq ne_point_eq al_coin_eq al_point_eq bs_coin_eq
attribute [local go_sem] ld_point_run ld_coin_run ld_hash_run st_point_run st_coin_run bd_point_zero bd_coin_zero bd_point_of bd_coin_of hash_at rowIs_34 rowIs_37 rowIs_both hasAt_both cellsAt_both eq_point_run ne_point_run guard_pt al_coin_run al_point_run al_coin_row al_point_row nil_bytes nil_coins bs_coin_run

set_option maxRecDepth 20000 in
set_option maxHeartbeats 2000000 in
theorem eqC_any (B : Option Addr) (n c : Nat) (hs : List Cm) (B2 : Option Addr) (n2 c2 : Nat) (ks : List Cm) (w : World) (ha : ArgP w B n c hs) (hb : ArgP w B2 n2 c2 ks) :
    Calls Try.prog 66 #[.slice B n c, .slice B2 n2 c2, .func (.func 67) #[] #[]] w fun e w' => e = .returned (.bool (decide (cns hs = cns ks))) ∧ Below w.heap.size w w' := by
  have l1 := ha.len
  have l2 := hb.len
  have k1 : n ≤ 9223372036854775807 := by have := ha.cap; have := ha.max; unfold maxLen at this; omega
  by_cases hn : n = n2
  · subst hn
    have d0 : ((n : Int) == (n : Int)) = true := beq_self_eq_true _
    have HT := Lib.hid (And.intro ha (And.intro hb (And.intro l1 l2)))
    clear ha hb l1 l2
    go_enter Try.func66, Try.ntmps66
    go_wp2_with (fail)
    go_loopw [7, 8, 9, 17] (fun _ _ _ i wr => ∃ j : Nat, j ≤ n ∧ i = .int .i64 j ∧ (cns hs).take j = (cns ks).take j ∧ Below w.heap.size w wr) (fun _ _ _ i _ => n - (intOf i).toNat)
    case atStart => exact ⟨0, by omega, rfl, rfl, Below.refl _ _⟩
    case round =>
      obtain ⟨j, hj, rfl, htk, hbel⟩ := hrel
      by_cases hlt : j < n
      · have dl : decide ((j : Int) < (n : Int)) = true := decide_eq_true (by omega)
        obtain ⟨ad, m, rfl, hm, hok, hbk, hc⟩ := (HT.out.1.below hbel).at_ hlt
        have hld := ld_coin_at wr (ad.add (j * 37)) m hok.c.p hc
        have okm := cc_ok hok.c.p
        have sl1 := slot_self wr (.cells (cc zm).toArray 57) (cc m).toArray
        obtain ⟨ad2, m2, rfl, hm2, hok2, hbk2, hc2⟩ := ((HT.out.2.1.below hbel).below sl1).at_ hlt
        have hld2 := ld_coin_at _ (ad2.add (j * 37)) m2 hok2.c.p hc2
        have okm2 := cc_ok hok2.c.p
        have sl2 := slot_self ((wr.alloc (.cells (cc zm).toArray 57)).setRow wr.heap.size (cc m).toArray) (.cells (cc zm).toArray 57) (cc m2).toArray
        have x1 := kept (both_row wr (cc zm).toArray 57 (cc m).toArray) sl2
        have x2 := both_row ((wr.alloc (.cells (cc zm).toArray 57)).setRow wr.heap.size (cc m).toArray) (cc zm).toArray 57 (cc m2).toArray
        have sl := bThen sl1 sl2
        have es : ((wr.alloc (.cells (cc zm).toArray 57)).setRow wr.heap.size (cc m).toArray).heap.size = wr.heap.size + 1 := by simp
        have o2 := hok2.below sl2
        have ha2 := heap_alloc_new ((wr.alloc (.cells (cc zm).toArray 57)).setRow wr.heap.size (cc m).toArray) (.cells (cc zm).toArray 57)
        rw [es] at x1 x2 sl o2 ha2
        have hri : rowIs (((wr.alloc (.cells (cc zm).toArray 57)).setRow wr.heap.size (cc m).toArray).alloc (.cells (cc zm).toArray 57)) (wr.heap.size + 1) 37 := rowIs_of ha2 (by simpa using cc_length (m := zm) zeroPt_ok)
        clear ha2
        have y1 := ld_coin_at _ ⟨wr.heap.size, 0, none⟩ m hok.c.p (coin_at x1)
        have y2 := ld_coin_at _ ⟨wr.heap.size + 1, 0, none⟩ m2 hok2.c.p (coin_at x2)
        have RS := same06_any m m2 _ (hok.below sl) o2
        have i1 : (0 : Int) ≤ (j : Int) := by omega
        have i2 : (j : Int) < (n : Int) := by omega
        have e1 : (cns hs)[j]? = some m.c := by unfold cns; rw [List.getElem?_map, hm]; rfl
        have e2 : (cns ks)[j]? = some m2.c := by unfold cns; rw [List.getElem?_map, hm2]; rfl
        obtain ⟨r, hr⟩ : ∃ r, decide (m.c = m2.c) = r := ⟨_, rfl⟩
        rw [hr] at RS
        have RS := Lib.hid RS
        have X := Lib.hid (And.intro htk (And.intro (bThen hbel sl) (And.intro e1 (And.intro e2 hr))))
        clear htk hbel e1 e2 hr hm hm2 hok hok2 hc hc2 sl sl1 sl2 x1 x2 es
        go_wp2_with (fail)
        refine RS.out.mono ?_
        rintro e w2 ⟨rfl, hb2⟩
        have Y := Lib.hid (bThen X.out.2.1 hb2)
        clear hb2 hld hld2 y1 y2
        cases r with
        | false =>
          go_wp2_with (fail)
          go_ret
          have hne : ¬ cns hs = cns ks := by
            intro e
            have h1 := X.out.2.2.1
            rw [e, X.out.2.2.2.1] at h1
            exact of_decide_eq_false X.out.2.2.2.2 (Option.some.inj h1).symm
          rw [decide_eq_false hne]
          exact ⟨rfl, Y.out⟩
        | true =>
          go_wp2_with (fail)
          go_roundw
          case rel => exact ⟨j + 1, by omega, by go_num, take_same X.out.1 X.out.2.2.1 X.out.2.2.2.1 (of_decide_eq_true X.out.2.2.2.2), Y.out⟩
          case measure => simp [intOf]; omega
      · obtain rfl : j = n := by omega
        have dl : decide ((j : Int) < (j : Int)) = false := decide_eq_false (by omega)
        have e : cns hs = cns ks := by
          rw [List.take_of_length_le (by rw [cns_length, HT.out.2.2.1]; exact Nat.le_refl _), List.take_of_length_le (by rw [cns_length, HT.out.2.2.2]; exact Nat.le_refl _)] at htk
          exact htk
        have E := Lib.hid (And.intro e hbel)
        clear e hbel htk
        go_wp2_with (fail)
        go_ret
        rw [decide_eq_true E.out.1]
        exact ⟨rfl, E.out.2⟩
  · have d0 : ((n : Int) == (n2 : Int)) = false := by simp; omega
    have hne : ¬ cns hs = cns ks := fun e => hn (by rw [← l1, ← l2, ← cns_length hs, ← cns_length ks, e])
    have HN := Lib.hid hne
    clear ha hb hne l1 l2
    go_enter Try.func66, Try.ntmps66
    go_wp2_with (fail)
    go_ret
    rw [decide_eq_false HN.out]
    exact ⟨rfl, Below.refl _ _⟩

abbrev StQQ (a1 : Addr) (p1 : Pt) (a2 : Addr) (p2 : Pt) (w' : World) : Prop := (ld_point (.pointer (some a1))).run Try.prog w' = .ok (.agg (pc p1).toArray) w' ∧ (ld_point (.pointer (some a2))).run Try.prog w' = .ok (.agg (pc p2).toArray) w'
set_option maxRecDepth 20000 in
set_option maxHeartbeats 2000000 in
theorem eqP_any {base : Nat} (B : Option Addr) (n c : Nat) (xs : List Pt) (B2 : Option Addr) (n2 c2 : Nat) (ys : List Pt) (w : World) (ha : FirmQ w base B n c xs) (hb : FirmQ w base B2 n2 c2 ys) :
    Calls Try.prog 68 #[.slice B n c, .slice B2 n2 c2] w fun e w' => e = .returned (.bool (decide (xs = ys))) ∧ Below w.heap.size w w' := by
  have l1 := ha.len
  have l2 := hb.len
  have k1 : n ≤ 9223372036854775807 := by have := ha.cap; have := ha.max; unfold maxLen at this; omega
  by_cases hn : n = n2
  · subst hn
    have d0 : ((n : Int) == (n : Int)) = true := beq_self_eq_true _
    have HT := Lib.hid (And.intro ha (And.intro hb (And.intro l1 l2)))
    clear ha hb l1 l2
    go_enter Try.func68, Try.ntmps68
    go_wp2_with (fail)
    go_loopw [5, 13] (fun _ i wr => ∃ j : Nat, j ≤ n ∧ i = .int .i64 j ∧ xs.take j = ys.take j ∧ Below w.heap.size w wr) (fun _ i _ => n - (intOf i).toNat)
    case atStart => exact ⟨0, by omega, rfl, rfl, Below.refl _ _⟩
    case round =>
      obtain ⟨j, hj, rfl, htk, hbel⟩ := hrel
      by_cases hlt : j < n
      · have dl : decide ((j : Int) < (n : Int)) = true := decide_eq_true (by omega)
        obtain ⟨ad, p, rfl, hm, hok, hbk, hc⟩ := (HT.out.1.below hbel).at_ hlt
        obtain ⟨ad2, p2, rfl, hm2, hok2, hbk2, hc2⟩ := (HT.out.2.1.below hbel).at_ hlt
        have hS0 : StQQ (ad.add (j * 34)) p (ad2.add (j * 34)) p2 wr.drew := ⟨ld_point_of wr.drew _ p hok hc, ld_point_of wr.drew _ p2 hok2 hc2⟩
        have okp : okPts (pc p).toArray (pc p2).toArray := ⟨p, p2, hok, hok2, rfl, rfl⟩
        have eqp := eqB_pc hok hok2
        have i1 : (0 : Int) ≤ (j : Int) := by omega
        have i2 : (j : Int) < (n : Int) := by omega
        obtain ⟨r, hr⟩ : ∃ r, decide (p = p2) = r := ⟨_, rfl⟩
        rw [hr] at eqp
        have X := Lib.hid (And.intro htk (And.intro hbel (And.intro hm (And.intro hm2 hr))))
        clear htk hbel hr hm hm2 hok hok2 hc hc2
        go_wp2_with (fail)
        go_region_held3 (fun w' => StQQ (ad.add (j * 34)) p (ad2.add (j * 34)) p2 w') (exact hS0) (fail)
        rename_i hHeldX
        have Y := Lib.hid (bThen X.out.2.1 (Below.refl wr.heap.size wr).drew)
        clear hHeldX hS0
        cases r with
        | false =>
          go_wp2_with (fail)
          go_ret
          have hne : ¬ xs = ys := by
            intro e
            have h1 := X.out.2.2.1
            rw [e, X.out.2.2.2.1] at h1
            exact of_decide_eq_false X.out.2.2.2.2 (Option.some.inj h1).symm
          rw [decide_eq_false hne]
          exact ⟨rfl, Y.out⟩
        | true =>
          go_wp2_with (fail)
          go_roundw
          case rel => exact ⟨j + 1, by omega, by go_num, take_same X.out.1 X.out.2.2.1 X.out.2.2.2.1 (of_decide_eq_true X.out.2.2.2.2), Y.out⟩
          case measure => simp [intOf]; omega
      · obtain rfl : j = n := by omega
        have dl : decide ((j : Int) < (j : Int)) = false := decide_eq_false (by omega)
        have e : xs = ys := by
          rw [List.take_of_length_le (by rw [HT.out.2.2.1]; exact Nat.le_refl _), List.take_of_length_le (by rw [HT.out.2.2.2]; exact Nat.le_refl _)] at htk
          exact htk
        have E := Lib.hid (And.intro e hbel)
        clear e hbel htk
        go_wp2_with (fail)
        go_ret
        rw [decide_eq_true E.out.1]
        exact ⟨rfl, E.out.2⟩
  · have d0 : ((n : Int) == (n2 : Int)) = false := by simp; omega
    have hne : ¬ xs = ys := fun e => hn (by rw [← l1, ← l2, e])
    have HN := Lib.hid hne
    clear ha hb hne l1 l2
    go_enter Try.func68, Try.ntmps68
    go_wp2_with (fail)
    go_ret
    rw [decide_eq_false HN.out]
    exact ⟨rfl, Below.refl _ _⟩

set_option maxRecDepth 20000 in
set_option maxHeartbeats 2000000 in
theorem sameU_any {base : Nat} {w : World} {A : Option Addr} {n c : Nat} {hs : List Cm} {B : Option Addr} {n2 c2 : Nat} {xs : List Pt} {A' : Option Addr} {m d : Nat} {ks : List Cm} {B' : Option Addr} {m2 d2 : Nat} {ys : List Pt}
    (ha : ArgP w A n c hs) (hx : FirmQ w base B n2 c2 xs) (hb : ArgP w A' m d ks) (hy : FirmQ w base B' m2 d2 ys) {r : Bool} (hr : decide (cns hs = cns ks ∧ xs = ys) = r) :
    Calls Try.prog 24 #[.agg #[.slice A n c, .slice B n2 c2], .agg #[.slice A' m d, .slice B' m2 d2]] w fun e w' => e = .returned (.bool r) ∧ Below w.heap.size w w' := by
  obtain ⟨f0, g0⟩ := two_box w (.cells #[.slice A n c, .slice B n2 c2] 25) (.cells #[.slice A' m d, .slice B' m2 d2] 25)
  have b0 : Below w.heap.size w ((w.alloc (.cells #[.slice A n c, .slice B n2 c2] 25)).alloc (.cells #[.slice A' m d, .slice B' m2 d2] 25)) := belA ((Below.refl _ _).alloc (Nat.le_refl _) _) _ (Nat.le_refl _)
  have p0 := (row_cells f0 0).1
  have p1 := (row_cells f0 1).1
  have q0 := (row_cells g0 0).1
  have q1 := (row_cells g0 1).1
  have EC := Lib.hid (eqC_any A n c hs A' m d ks _ (ha.below b0) (hb.below b0))
  have H := Lib.hid (And.intro f0 (And.intro g0 (And.intro b0 (And.intro (hx.below b0) (And.intro (hy.below b0) hr)))))
  clear f0 g0 b0 ha hb hx hy hr
  go_enter Try.func24, Try.ntmps24
  go_wp2_with (fail)
  refine EC.out.mono ?_
  rintro e w1 ⟨rfl, hb1⟩
  have bl1 := bThen H.out.2.2.1 hb1
  by_cases he : cns hs = cns ks
  · rw [decide_eq_true he]
    have y1 := (row_cells (kept H.out.1 hb1) 1).1
    have z1 := (row_cells (kept H.out.2.1 hb1) 1).1
    have EP := Lib.hid (eqP_any B n2 c2 xs B' m2 d2 ys w1 (H.out.2.2.2.1.below hb1) (H.out.2.2.2.2.1.below hb1))
    have B1 := Lib.hid (And.intro bl1 he)
    clear bl1 hb1 he p0 p1 q0 q1
    go_wp2_with (fail)
    refine EP.out.mono ?_
    rintro e w2 ⟨rfl, hb2⟩
    have B2 := Lib.hid (bThen B1.out.1 hb2)
    have hrr : decide (xs = ys) = r := by rw [← H.out.2.2.2.2.2]; simp [B1.out.2]
    rw [hrr]
    clear hb2 hrr
    go_wp2_with (fail)
    go_ret
    exact ⟨rfl, B2.out⟩
  · rw [decide_eq_false he]
    have hrr : r = false := by rw [← H.out.2.2.2.2.2]; simp [he]
    have B1 := Lib.hid (And.intro bl1 hrr)
    clear bl1 hb1 he hrr
    go_wp2_with (fail)
    go_ret
    rw [B1.out.2]
    exact ⟨rfl, B1.out.1⟩
end Go.Proofs.Ytofclanljhfkiaa
/- Undo, in plain Lean: what is put is read. -/
namespace Go.Proofs.Ytofclanljhfkiaa
open Go.RowKit Go.Proofs En Co
set_option linter.unusedVariables false
set_option linter.unusedSimpArgs false
set_option maxRecDepth 20000

theorem gets_coins_mid : ∀ (l : List Cn) (x z : List Int), (∀ c ∈ l, c.ok ∧ mayO c.v c.l = true) → getsG (getCF (x ++ coinsF l ++ z)) l.length x.length = (l, (x.length : Int) + (coinsF l).length, 0)
  | [], x, z, _ => by simp [getsG, coinsF]
  | c :: r, x, z, h => by
    have hc := h c (List.mem_cons_self ..)
    have hp : putCF c = ((putCF c).1, 0) := by rw [putCF_may hc.2]
    have hg := put_get x (coinsF r ++ z) hc.1 hp
    have e1 : x ++ coinsF (c :: r) ++ z = x ++ (putCF c).1 ++ (coinsF r ++ z) := by
      unfold coinsF
      rw [List.flatMap_cons]
      simp only [List.append_assoc]
    have ih := gets_coins_mid r (x ++ (putCF c).1) z (fun d hd => h d (List.mem_cons_of_mem _ hd))
    have e2 : x ++ (putCF c).1 ++ (coinsF r ++ z) = x ++ (putCF c).1 ++ coinsF r ++ z := by simp only [List.append_assoc]
    rw [List.length_append, Int.natCast_add] at ih
    rw [List.length_cons, getsG_next, e1, hg, if_pos rfl, e2]
    show (c :: (getsG (getCF (x ++ (putCF c).1 ++ coinsF r ++ z)) r.length ((x.length : Int) + (putCF c).1.length)).1, _, _) = _
    rw [ih]
    have e3 : (coinsF (c :: r)).length = (putCF c).1.length + (coinsF r).length := by unfold coinsF; rw [List.flatMap_cons, List.length_append]
    rw [e3]
    simp only [Prod.mk.injEq, true_and, and_true]
    omega
theorem gets_points_mid : ∀ (l : List Pt) (x z : List Int), (∀ p ∈ l, p.ok) → getsG (getPF (x ++ ptsF l ++ z)) l.length x.length = (l, (x.length : Int) + (ptsF l).length, 0)
  | [], x, z, _ => by simp [getsG, ptsF]
  | p :: r, x, z, h => by
    have hp := h p (List.mem_cons_self ..)
    have hl := putPF_length hp
    have hg := getPF_mid x (ptsF r ++ z) hp x.length rfl
    have e1 : x ++ ptsF (p :: r) ++ z = x ++ putPF p ++ (ptsF r ++ z) := by
      unfold ptsF
      rw [List.flatMap_cons]
      simp only [List.append_assoc]
    have ih := gets_points_mid r (x ++ putPF p) z (fun d hd => h d (List.mem_cons_of_mem _ hd))
    have e2 : x ++ putPF p ++ (ptsF r ++ z) = x ++ putPF p ++ ptsF r ++ z := by simp only [List.append_assoc]
    rw [List.length_append, Int.natCast_add, hl] at ih
    rw [List.length_cons, getsG_next, e1, hg, if_pos rfl, e2]
    show (p :: (getsG (getPF (x ++ putPF p ++ ptsF r ++ z)) r.length ((x.length : Int) + 38)).1, _, _) = _
    rw [show (x.length : Int) + 38 = (x.length : Int) + (38 : Nat) from rfl, ih]
    have e3 : (ptsF (p :: r)).length = 38 + (ptsF r).length := by unfold ptsF; rw [List.flatMap_cons, List.length_append, hl]
    rw [e3]
    simp only [Prod.mk.injEq, true_and, and_true]
    omega
theorem readUF_put {cs : List Cn} {xs : List Pt} (hc : ∀ c ∈ cs, c.ok ∧ mayO c.v c.l = true) (hp : ∀ p ∈ xs, p.ok) (h : ¬ (256 < cs.length ∨ 256 < xs.length)) : readUF (countF cs.length ++ coinsF cs ++ countF xs.length ++ ptsF xs) = (cs, xs, 0) := by
  obtain ⟨b, hb⟩ : ∃ b, countF cs.length ++ coinsF cs ++ countF xs.length ++ ptsF xs = b := ⟨_, rfl⟩
  have e1 : b = [] ++ countF cs.length ++ (coinsF cs ++ countF xs.length ++ ptsF xs) := by rw [← hb]; simp only [List.append_assoc, List.nil_append]
  have e2 : b = countF cs.length ++ coinsF cs ++ (countF xs.length ++ ptsF xs) := by rw [← hb]; simp only [List.append_assoc]
  have e3 : b = (countF cs.length ++ coinsF cs) ++ countF xs.length ++ ptsF xs := hb.symm
  have e4 : b = (countF cs.length ++ coinsF cs ++ countF xs.length) ++ ptsF xs ++ [] := by rw [← hb]; simp only [List.append_assoc, List.append_nil]
  have g1 := getCountF_mid [] (coinsF cs ++ countF xs.length ++ ptsF xs) cs.length 0 rfl (by omega)
  rw [← e1] at g1
  have g2 := gets_coins_mid cs (countF cs.length) (countF xs.length ++ ptsF xs) hc
  rw [← e2] at g2
  have g3 := getCountF_mid (countF cs.length ++ coinsF cs) (ptsF xs) xs.length _ rfl (by omega)
  rw [← e3] at g3
  have g4 := gets_points_mid xs (countF cs.length ++ coinsF cs ++ countF xs.length) [] hp
  rw [← e4] at g4
  have h1 : listC b 0 = (cs, (((countF cs.length ++ coinsF cs).length : Nat) : Int), 0) := by
    refine listG_ok g1 (by omega) ?_
    rw [Int.toNat_natCast, Int.zero_add, g2, List.length_append, Int.natCast_add]
  have h2 : listP b (((countF cs.length ++ coinsF cs).length : Nat) : Int) = (xs, ((b.length : Nat) : Int), 0) := by
    refine listG_ok g3 (by omega) ?_
    have hl : (countF cs.length ++ coinsF cs ++ countF xs.length).length = (countF cs.length ++ coinsF cs).length + (countF xs.length).length := List.length_append
    rw [hl, Int.natCast_add] at g4
    rw [Int.toNat_natCast, g4]
    have : b.length = (countF cs.length ++ coinsF cs).length + (countF xs.length).length + (ptsF xs).length := by rw [← hb]; simp only [List.length_append]
    rw [this]
    simp only [Int.natCast_add]
  rw [hb, readUF_ok h1 h2 (by omega)]
end Go.Proofs.Ytofclanljhfkiaa
