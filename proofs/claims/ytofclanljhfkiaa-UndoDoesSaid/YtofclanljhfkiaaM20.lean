/- Joined texts: TbW, TbX, TbY. -/
import Derived.Test.YtofclanljhfkiaaM19
import Derived.Test.YtofclanljhfkiaaM18
/- The reference's table that is read. -/
namespace Go.Proofs.Ytofclanljhfkiaa
open Go.RowKit Go.Proofs En Co
set_option linter.unusedVariables false
set_option linter.unusedSimpArgs false
set_option maxRecDepth 20000
attribute [local go_sem ↓] ld_point_eq ld_coin_eq ld_hash_eq st_point_eq st_coin_eq bd_point_eq bd_coin_eq eq_point_eq ne_point_eq al_coin_eq al_point_eq bs_coin_eq
attribute [local go_sem] ld_point_run ld_coin_run ld_hash_run st_point_run st_coin_run bd_point_zero bd_coin_zero bd_point_of bd_coin_of hash_at rowIs_34 rowIs_37 rowIs_both hasAt_both cellsAt_both eq_point_run ne_point_run guard_pt al_coin_run al_point_run al_coin_row al_point_row nil_bytes nil_coins bs_coin_run

section
variable {w w' w3 w4 : World} {base g j k : Nat} {A P : Option Addr} {gs : List Pg}
theorem Own.onlyR {e : TypeId} {size : Nat} {G : Value → Prop} {B : Option Addr} {n c : Nat} {cs : List Value} {xs : Array Value} (h : Own w base e size G B n c cs) (ho : Only w w' g P) (hg : w.heap[g]? = some (.cells xs 124 (0, 0))) (hP : ∀ k, blk P = some k → ∃ ys, w.heap[k]? = some (.cells ys 22 (0, 0))) (h1 : e ≠ 124) (h2 : e ≠ 22) : Own w' base e size G B n c cs :=
  Own.keep h fun i hi => ho.block i (Own.lt h i hi).2 (fun e => by subst e; exact Own.ne_block h hg h1 hi) (fun e => by
    obtain ⟨ys, hy⟩ := hP i e
    exact Own.ne_block h hy h2 hi)
theorem OwnP.onlyR {B : Option Addr} {n c : Nat} {hs : List Cm} {xs : Array Value} (h : OwnP w base B n c hs) (ho : Only w w' g P) (hg : w.heap[g]? = some (.cells xs 124 (0, 0))) (hP : ∀ k, blk P = some k → ∃ ys, w.heap[k]? = some (.cells ys 22 (0, 0))) : OwnP w' base B n c hs :=
  ⟨Own.onlyR h.row ho hg hP (by decide) (by decide), fun m hm => ⟨(h.ok m hm).1, Own.onlyR (h.ok m hm).2.1 ho hg hP (by decide) (by decide), (h.ok m hm).2.2⟩, h.len⟩
/-- the reference's table that is being read: all its own -/
structure RC (w : World) (base g : Nat) (A : Option Addr) (j k : Nat) (gs : List Pg) : Prop where
  row : w.heap[g]? = some (.cells #[.slice A j k] 124 (0, 0))
  pages : Own w base 22 1 (fun _ => True) A j k (gs.map Pg.cell)
  own : ∀ x ∈ gs, OwnP w base x.A x.n x.c x.hs
theorem RC.below (h : RC w base g A j k gs) (hb : Below w.heap.size w w') : RC w' base g A j k gs := ⟨kept h.row hb, h.pages.below hb, fun x hx => (h.own x hx).below hb⟩
theorem RC.kinds (h : RC w base g A j k gs) : ∀ i, blk A = some i → ∃ ys, w.heap[i]? = some (.cells ys 22 (0, 0)) := by
  intro i hi
  rcases h.pages.2 with ⟨rfl, _⟩ | ⟨k', cur, rfl, _, hh, _⟩
  · cases hi
  · have e : k' = i := by simpa [blk] using hi
    subst e
    exact ⟨cur, hh⟩
theorem RC.row4 (h : RC w3 base g A j k gs) (hg : w3.grownBy w4 (blk A)) : w4.heap[g]? = some (.cells #[.slice A j k] 124 (0, 0)) :=
  (hg.block g (Array.getElem?_eq_some_iff.1 h.row).1 (fun e => Own.ne_block h.pages h.row (by decide) e.symm)).trans h.row
theorem RC.next (h : RC w3 base g A j k gs) (hg : w3.grownBy w4 (blk A)) {A4 : Option Addr} {k4 : Nat} {y : Pg} (ho : Own w4 base 22 1 (fun _ => True) A4 (j + 1) k4 (gs.map Pg.cell ++ [y.cell])) (hy : OwnP w3 base y.A y.n y.c y.hs) :
    RC (w4.setCell ⟨g, 0, none⟩ (.slice A4 (j + 1) k4)) base g A4 (j + 1) k4 (gs ++ [y]) := by
  have O : Only w3 (w4.setCell ⟨g, 0, none⟩ (.slice A4 (j + 1) k4)) g A := (Only.grown hg).setCell (.inl rfl) _
  have hr := h.row4 hg
  refine ⟨heap_setCell_same _ g 0 _ _ _ hr, ?_, fun x hx => ?_⟩
  · rw [List.map_append]
    exact Own.setOther ho (fun e => Own.ne_block ho hr (by decide) e) _
  · rcases List.mem_append.1 hx with hx | hx
    · exact (h.own x hx).onlyR O h.row h.kinds
    · rcases List.mem_singleton.1 hx with rfl
      exact hy.onlyR O h.row h.kinds
theorem OwnP.firm {x : Pg} {b2 : Nat} (h : OwnP w base x.A x.n x.c x.hs) : FirmP w b2 x :=
  ⟨h.arg, Firm.own h.row (by decide) (by decide) (by decide) (by decide) (by decide), fun m hm _ => FirmK.own (h.ok m hm).2.1 (by decide) (by decide) (by decide) (by decide) (by decide) (by decide)⟩
theorem RC.rt (h : RC w base g A j k gs) (hg : base ≤ g) : RT w base g A (pgsOf gs) :=
  ⟨hg, j, k, gs, h.row, h.pages.rd, (Own.len_cap h.pages).1, (Own.len_cap h.pages).2, fun x hx => (h.own x hx).firm, rfl, fun i hi => ⟨(Own.lt h.pages i hi).1, (Own.lt h.pages i hi).2, h.kinds i hi⟩⟩
theorem OwnP.grownR {w w' : World} {base b2 : Nat} {B C : Option Addr} {n c l d : Nat} {hs ks : List Cm} (h : OwnP w base B n c hs) (ho : OwnP w b2 C l d ks) (hg : w.grownBy w' (blk C)) (hne : ∀ g, blk B = some g → blk C ≠ some g) : OwnP w' base B n c hs := by
  have hkind : ∀ g, blk C = some g → ∃ xs, w.heap[g]? = some (.cells xs 57 (0, 0)) := by
    intro g hg
    rcases ho.row.2 with ⟨rfl, _⟩ | ⟨g', cur, rfl, _, hh, _⟩
    · cases hg
    · have e : g' = g := by simpa [blk] using hg
      subst e
      exact ⟨cur, hh⟩
  refine ⟨Own.grown h.row hg hne, fun m hm => ⟨(h.ok m hm).1, Own.grown (h.ok m hm).2.1 hg fun k hk e => ?_, (h.ok m hm).2.2⟩, h.len⟩
  obtain ⟨xs, h1⟩ := hkind k e
  exact Own.ne_block (h.ok m hm).2.1 h1 (by decide) hk
/-- a row of coins that is not the table's is grown -/
theorem RC.coins {base2 l d : Nat} {B : Option Addr} {hs : List Cm} (h : RC w base g A j k gs) (ho : OwnP w base2 B l d hs) (hg : w.grownBy w' (blk B)) (hne : ∀ x ∈ gs, ∀ g, blk x.A = some g → blk B ≠ some g) : RC w' base g A j k gs := by
  have hkind : ∀ g, blk B = some g → ∃ xs, w.heap[g]? = some (.cells xs 57 (0, 0)) := by
    intro g hg
    rcases ho.row.2 with ⟨rfl, _⟩ | ⟨g', cur, rfl, _, hh, _⟩
    · cases hg
    · have e : g' = g := by simpa [blk] using hg
      subst e
      exact ⟨cur, hh⟩
  refine ⟨?_, Own.grown h.pages hg fun k hk e => ?_, fun x hx => (h.own x hx).grownR ho hg (hne x hx)⟩
  · refine (hg.block g (Array.getElem?_eq_some_iff.1 h.row).1 (fun e => ?_)).trans h.row
    exact Own.ne_block ho.row h.row (by decide) e.symm
  · obtain ⟨xs, h1⟩ := hkind k e
    exact Own.ne_block h.pages h1 (by decide) hk
end

/-- what a round of the pages' loop knows -/
structure RrR (w wr : World) (g : Nat) (b : List Int) (N : Nat) (x : Int) (j : Nat) (at_ : Int) (tot : Nat) (right : Bool) (acc : List (List Cn)) (Q : Option Addr) (cp : Nat) (gs : List Pg) : Prop where
  bel : Below w.heap.size w wr
  rc : RC wr w.heap.size g Q j cp gs
  run : pagesA b N x 0 [] true = pagesA b (N - j) at_ tot acc right
  at0 : (j : Int) ≤ at_
  at1 : at_ ≤ b.length
  cnt : tot = (allC gs).length
  top : tot ≤ 2000
  pgs : pgsOf gs = acc
/-- what a round of a page's loop knows -/
structure RqR (w wp wr : World) (g tot m : Nat) (Q : Option Addr) (np cp : Nat) (gs : List Pg) (b : List Int) (at0 : Int) (j : Nat) (at_ : Int) (L : Option Addr) (k : Nat) (hs : List Cm) : Prop where
  bel : Below w.heap.size w wr
  rc : RC wr w.heap.size g Q np cp gs
  own : OwnP wr wp.heap.size L j k hs
  sz : wp.heap.size ≤ wr.heap.size
  run : coinsA b m at0 tot [] = coinsA b (m - j) at_ (tot + j) (cns hs)
  at0 : at0 ≤ at_
  at1 : at_ ≤ b.length
  tot : tot + j ≤ 2000
def rreadEnd (w w' : World) (e : Ending) (ps : List (List Cn)) (q : Int) : Prop :=
  Below w.heap.size w w' ∧ ((q ≠ 0 ∧ e = .returned (.tuple #[.pointer none, .int .i64 q])) ∨
    (q = 0 ∧ ∃ (g : Nat) (Q : Option Addr), e = .returned (.tuple #[ptr g, .int .i64 0]) ∧ RT w' w.heap.size g Q ps))
theorem rreadEnd.err {w w' : World} {ps : List (List Cn)} {q e : Int} (hb : Below w.heap.size w w') (he : e ≠ 0) (hq : q = e) : rreadEnd w w' (.returned (.tuple #[.pointer none, .int .i64 e])) ps q := by
  subst hq
  exact ⟨hb, .inl ⟨he, rfl⟩⟩
theorem pageR_err {b : List Int} {at_ v x q : Int} {tot : Nat} (h : getCountF b at_ = (v, x, q)) (hq : q ≠ 0) : pageR b at_ tot = ([], 0, false, q) := by
  unfold pageR; rw [h, if_neg hq]
theorem pageR_run {b : List Int} {at_ x y e : Int} {m tot : Nat} {cs : List Cn} (h : getCountF b at_ = ((m : Int), x, 0)) (hr : coinsA b m x tot [] = (cs, y, e)) : pageR b at_ tot = if e = 0 then (cs, y, decide (0 < (m : Int)) && decide ((m : Int) ≤ 8), 0) else ([], 0, false, e) := by
  unfold pageR
  rw [h]
  simp only [if_true, Int.toNat_natCast]
  rw [hr]
theorem decide_not_le (n : Nat) : (!decide ((n : Int) ≤ 8)) = decide (8 < n) := by
  by_cases h : n ≤ 8
  · rw [decide_eq_true (show (n : Int) ≤ 8 by omega), decide_eq_false (show ¬ 8 < n by omega)]; rfl
  · rw [decide_eq_false (show ¬ (n : Int) ≤ 8 by omega), decide_eq_true (show 8 < n by omega)]; rfl
theorem pageR_bad {b : List Int} {at_ x e : Int} {m tot : Nat} (h : getCountF b at_ = ((m : Int), x, 0)) (hr : coinsA b m x tot [] = ([], 0, e)) (he : e ≠ 0) : pageR b at_ tot = ([], 0, false, e) := by
  rw [pageR_run h hr, if_neg he]
theorem pageR_good {b : List Int} {at_ x y : Int} {m tot : Nat} {cs : List Cn} (h : getCountF b at_ = ((m : Int), x, 0)) (hr : coinsA b m x tot [] = (cs, y, 0)) : pageR b at_ tot = (cs, y, decide (0 < (m : Int)) && decide ((m : Int) ≤ 8), 0) := by
  rw [pageR_run h hr, if_pos rfl]
set_option maxRecDepth 20000 in
set_option maxHeartbeats 4000000 in
theorem rread_m {w : World} {A : Option Addr} {n c : Nat} {b : List Int} {ps : List (List Cn)} {q : Int} (hb : Arg w A n c b) (hr : readTF b = (ps, q)) (hbn : n ≤ 30000) :
    Calls Try.prog 36 #[.slice A n c] w fun e w' => rreadEnd w w' e ps q := by
  have hlen := hb.rd.len
  have hn := hb.len
  obtain ⟨v, x, q1, hgc⟩ : ∃ v x q1, getCountF b 0 = (v, x, q1) := ⟨_, _, _, rfl⟩
  have C := Lib.hid (rgetCount_is hb (by omega) hgc)
  have HB := Lib.hid hb
  by_cases hq1 : q1 = 0
  · subst hq1
    obtain ⟨k1, k2, k3, k4, k5⟩ := getCountF_ok hb.isB (at_ := 0) (by rw [hgc])
    rw [hgc] at k1 k2 k4 k5
    simp only at k1 k2 k4 k5
    obtain ⟨N, rfl⟩ := Int.eq_ofNat_of_zero_le k1
    unfold readTF at hr
    rw [hgc] at hr
    simp only [Int.toNat_natCast, if_true] at hr
    have HR := Lib.hid hr
    clear hr hgc hb
    go_enter Try.func36, Try.ntmps36
    go_wp2_with (fail)
    refine C.out.mono ?_
    rintro e w1 ⟨rfl, hb1⟩
    have NW := Lib.hid (rnew_any w1)
    have B1 := Lib.hid hb1
    clear hb1
    go_wp2_with (fail)
    refine NW.out.mono ?_
    rintro e w2 ⟨rfl, hw2⟩
    have b2 : Below w1.heap.size w1 w2 := by rw [hw2]; exact (Below.refl _ _).alloc (Nat.le_refl _) _
    have bel2 := bThen B1.out b2
    have rc2 : RC w2 w.heap.size w1.heap.size none 0 0 [] := by
      rw [hw2]; exact ⟨heap_alloc_new w1 _, Own.nil _ _ _ _ _, fun _ h => (by cases h)⟩
    have s2 : RrR w w2 w1.heap.size b N x 0 x 0 true [] none 0 [] := ⟨bel2, rc2, rfl, by omega, k5, rfl, by omega, rfl⟩
    have hg1 := B1.out.size
    generalize hgg : w1.heap.size = g at *
    clear hw2 b2 bel2 rc2 hgg
    go_wp2_with (fail)
    go_loopw [5, 8, 9, 10] (fun a r mn i wr => ∃ (j : Nat) (at2 : Int) (tot : Nat) (right : Bool) (acc : List (List Cn)) (Q : Option Addr) (cp : Nat) (gs : List Pg), j ≤ N ∧ a = .int .i64 at2 ∧ r = .bool (!right) ∧ mn = .int .i64 tot ∧ i = .int .u64 j ∧ RrR w wr g b N x j at2 tot right acc Q cp gs) (fun _ _ _ i _ => N - (intOf i).toNat)
    case atStart => exact ⟨0, x, 0, true, [], none, 0, [], by omega, rfl, rfl, rfl, rfl, s2⟩
    case round =>
      clear s2
      obtain ⟨j, at2, tot, right, acc, Q, cp, gs, hj, rfl, rfl, rfl, rfl, hs⟩ := hrel
      by_cases hlt : j < N
      · obtain ⟨v2, x2, q2, hgc2⟩ : ∃ v x q, getCountF b at2 = (v, x, q) := ⟨_, _, _, rfl⟩
        have hrun := hs.run
        rw [show N - j = (N - (j + 1)) + 1 by omega] at hrun
        have d0 : decide ((j : Int) < (N : Int)) = true := decide_eq_true (by omega)
        have hat0 := hs.at0
        have hat1 := hs.at1
        have htop := hs.top
        have G := Lib.hid (rgetCount_is (HB.out.past hs.bel) (by omega) hgc2)
        have HCNT := Lib.hid hs.cnt
        have HPGS := Lib.hid hs.pgs
        have S := Lib.hid (And.intro hs hrun)
        clear hs hrun
        by_cases hq2 : q2 = 0
        · subst hq2
          obtain ⟨m1, m2, m3, m4, m5⟩ := getCountF_ok HB.out.isB (at_ := at2) (by rw [hgc2])
          rw [hgc2] at m1 m2 m4 m5
          simp only at m1 m2 m4 m5
          obtain ⟨M, rfl⟩ := Int.eq_ofNat_of_zero_le m1
          have hw0 : IntKind.u64.wrap ((j : Int) + 1) = (j : Int) + 1 := by rw [IntKind.wrap_u64]; omega
          have START : ∀ w3, Below wr.heap.size wr w3 → RqR w w3 w3 g tot M Q j cp gs b x2 0 x2 none 0 [] := fun w3 hb3 => ⟨S.out.1.bel.trans (hb3.mono S.out.1.bel.size), S.out.1.rc.below hb3, OwnP.nil _ _, Nat.le_refl _, rfl, Int.le_refl _, m5, by omega⟩
          have START := Lib.hid START
          cases right with
          | false =>
            go_wp2_with (fail)
            refine G.out.mono ?_
            rintro e w3 ⟨rfl, hb3⟩
            have S3 := Lib.hid (And.intro S.out.2 (And.intro hgc2 (START.out w3 hb3)))
            clear hb3
            go_wp2_with (fail)
            go_loopw [5, 9, 14, 15] (fun a mn l i wr => ∃ (j2 : Nat) (at3 : Int) (L : Option Addr) (k : Nat) (hs : List Cm), j2 ≤ M ∧ a = .int .i64 at3 ∧ mn = .int .i64 ((tot + j2 : Nat) : Int) ∧ l = .slice L j2 k ∧ i = .int .u64 j2 ∧ RqR w w3 wr g tot M Q j cp gs b x2 j2 at3 L k hs) (fun _ _ _ i _ => M - (intOf i).toNat)
            case atStart => exact ⟨0, x2, none, 0, [], by omega, rfl, rfl, rfl, rfl, S3.out.2.2⟩
            case round =>
              obtain ⟨j2, at3, L, k, hs, hj2, rfl, rfl, rfl, rfl, hs1⟩ := hrel
              by_cases hlt2 : j2 < M
              · obtain ⟨d, nx2, q2, hgc2⟩ : ∃ d nx2 q2, getCF b at3 = (d, nx2, q2) := ⟨_, _, _, rfl⟩
                have hrun := hs1.run
                rw [show M - j2 = (M - (j2 + 1)) + 1 by omega, coinsA_next hgc2] at hrun
                have d1 : decide ((j2 : Int) < (M : Int)) = true := decide_eq_true (by omega)
                have hdo : d.ok := by have := getCF_ok HB.out.isB at3; rw [hgc2] at this; exact this
                have hdl : d.l.length ≤ 100 := by have := getCF_len b at3; rw [hgc2] at this; exact this
                have ht0 := hs1.tot
                have hat0' := hs1.at0
                have hat1' := hs1.at1
                have G2 := Lib.hid (rgetC_is (HB.out.past hs1.bel) (by omega) hgc2)
                obtain ⟨T, hT⟩ : ∃ T, tot + j2 = T := ⟨_, rfl⟩
                have hTle : T ≤ 2000 := by omega
                rw [hT] at hrun
                rw [hT]
                have S4 := Lib.hid (And.intro hs1 (And.intro hrun hT))
                clear hs1 hrun hT
                go_wp2_with (fail)
                refine G2.out.mono ?_
                rintro e w5 ⟨A5, k5', rfl, ho5, hb5⟩
                have hokd := cc_ok (m := ⟨d, A5, k5'⟩) hdo.p
                have sl := slot_self w5 (.cells (cc zm).toArray 57) (cc ⟨d, A5, k5'⟩).toArray
                have hbs := bThen hb5 sl
                have bel5 := S4.out.1.bel.trans (hbs.mono S4.out.1.bel.size)
                by_cases hq2 : q2 = 0
                · subst hq2
                  have hw : IntKind.i64.wrap ((T : Int) + 1) = (T : Int) + 1 := wrap_i64s (by omega)
                  by_cases hT2 : T = 2000
                  · have e3 : decide ((T : Int) + 1 > 2000) = true := decide_eq_true (by omega)
                    have e3b : (2000 : Int) < (T : Int) + 1 := by omega
                    have hc : coinsA b M x2 tot [] = ([], 0, 3) := S4.out.2.1.trans (by rw [if_pos rfl, if_pos hT2])
                    have hX := rd_err (e := 3) HR.out (S3.out.1.trans (by rw [pagesA_next (pageR_bad S3.out.2.1 hc (by decide)), if_neg (by decide)])) (by decide)
                    have B5 := Lib.hid (And.intro bel5 hX)
                    clear bel5 hbs sl ho5 hb5 hX hc hT2
                    go_wp2_with (fail)
                    go_ret2
                    exact rreadEnd.err B5.out.1 (by decide) B5.out.2
                  · have e3 : decide ((T : Int) + 1 > 2000) = false := decide_eq_false (by omega)
                    have e3b : ¬ ((2000 : Int) < (T : Int) + 1) := by omega
                    have rc5 := S4.out.1.rc.below hbs
                    have own5 := S4.out.1.own.below hbs
                    have ownd : OwnB ((w5.alloc (.cells (cc zm).toArray 57)).setRow w5.heap.size (cc ⟨d, A5, k5'⟩).toArray) w3.heap.size A5 d.l.length k5' d.l := OwnN.mono (OwnN.below ho5 sl) S4.out.1.sz
                    have box5 := both_row w5 (cc zm).toArray 57 (cc ⟨d, A5, k5'⟩).toArray
                    have hszW : ((w5.alloc (.cells (cc zm).toArray 57)).setRow w5.heap.size (cc ⟨d, A5, k5'⟩).toArray).heap.size = w5.heap.size + 1 := by simp
                    have orow := one_row ((w5.alloc (.cells (cc zm).toArray 57)).setRow w5.heap.size (cc ⟨d, A5, k5'⟩).toArray) ⟨d, A5, k5'⟩ hdo.p
                    rw [hszW] at orow
                    have l3 : Below ((w5.alloc (.cells (cc zm).toArray 57)).setRow w5.heap.size (cc ⟨d, A5, k5'⟩).toArray).heap.size ((w5.alloc (.cells (cc zm).toArray 57)).setRow w5.heap.size (cc ⟨d, A5, k5'⟩).toArray) (((w5.alloc (.cells (cc zm).toArray 57)).setRow w5.heap.size (cc ⟨d, A5, k5'⟩).toArray).alloc (.cells (cc ⟨d, A5, k5'⟩).toArray 57)) := (Below.refl _ _).alloc (Nat.le_refl _) _
                    have rc6 := rc5.below l3
                    have own6 := own5.below l3
                    have ownd6 := OwnN.below ownd l3
                    have bel6 := bel5.trans (l3.mono bel5.size)
                    have sz6 : w3.heap.size ≤ w5.heap.size := Nat.le_trans S4.out.1.sz hb5.size
                    have hzz := l3.size
                    have hpg : ∀ x ∈ gs, ∀ g, blk x.A = some g → blk L ≠ some g := fun x hx g h1 h2 => by
                      have k1 := (Own.lt (S3.out.2.2.rc.own x hx).row g h1).2
                      have k2 := (Own.lt S4.out.1.own.row g h2).1
                      omega
                    have X := Lib.hid (And.intro rc6 (And.intro own6 (And.intro ownd6 (And.intro bel6 (And.intro orow hpg)))))
                    clear bel5 hbs sl ho5 hb5 rc5 own5 ownd box5 orow l3 rc6 own6 ownd6 bel6 hpg
                    go_wp2_with (at_builtin; refine Stop.mk ?_)
                    refine Stop.out ?_
                    refine wpList_appP _ rfl (.tmp 75) (.tmp 77) rfl w3.heap.size L j2 k hs rfl X.out.2.1 (some ⟨w5.heap.size + 1, 0, none⟩) 1 1 [⟨d, A5, k5'⟩] rfl X.out.2.2.2.2.1 rfl (fun z hz => by rcases List.mem_singleton.1 hz with rfl; exact ⟨hdo, X.out.2.2.1, by show d.l.length ≤ _; omega⟩) (by omega) (by omega) ?_
                    intro A4 k4' w4 ho4 hg4
                    have bel4 : Below w.heap.size w w4 := X.out.2.2.2.1.grown hg4 X.out.2.2.2.1.size (fun g hg => Nat.le_trans S3.out.2.2.bel.size (Own.lt X.out.2.1.row g hg).1)
                    have rc4 := X.out.1.coins X.out.2.1 hg4 X.out.2.2.2.2.2
                    have sz4 : w3.heap.size ≤ w4.heap.size := by have := hg4.size; omega
                    have E4 : coinsA b M x2 tot [] = coinsA b (M - (j2 + 1)) nx2 (T + 1) (cns (hs ++ [⟨d, A5, k5'⟩])) := by
                      rw [S4.out.2.1, if_pos trivial, if_neg hT2, cns_append]; rfl
                    have hnx := getCF_next HB.out.isB (at_ := at3) (by rw [hgc2])
                    rw [hgc2] at hnx
                    have Y := Lib.hid (And.intro ho4 (And.intro bel4 (And.intro rc4 (And.intro E4 hnx))))
                    clear ho4 bel4 rc4 E4 hnx hg4
                    go_wp2_with (fail)
                    go_roundw
                    case rel =>
                      obtain ⟨y1, y2, y3, y4, y5⟩ := Y.out
                      have hT9 := S4.out.2.2
                      refine ⟨j2 + 1, nx2, A4, k4', hs ++ [⟨d, A5, k5'⟩], by omega, rfl, by rw [← hT9]; go_num, rfl, by go_num, ⟨y2, y3, y1, sz4, ?_, by simp only at y5; omega, y5.2.2, by omega⟩⟩
                      rw [show tot + (j2 + 1) = T + 1 by omega]; exact y4
                    case measure => simp [intOf]; omega
                · have e2 : (q2 != 0) = true := by simpa using hq2
                  have hc : coinsA b M x2 tot [] = ([], 0, q2) := S4.out.2.1.trans (by rw [if_neg hq2])
                  have hX := rd_err HR.out (S3.out.1.trans (by rw [pagesA_next (pageR_bad S3.out.2.1 hc hq2), if_neg hq2])) hq2
                  have B5 := Lib.hid (And.intro bel5 (And.intro hq2 hX))
                  clear bel5 hbs sl ho5 hb5 hq2 hX hc
                  go_wp2_with (fail)
                  go_ret2
                  exact rreadEnd.err B5.out.1 B5.out.2.1 B5.out.2.2
              · obtain rfl : j2 = M := by omega
                have d1 : decide ((j2 : Int) < (j2 : Int)) = false := decide_eq_false (by omega)
                have hcx : coinsA b j2 x2 tot [] = (cns hs, at3, 0) := hs1.run.trans (by rw [Nat.sub_self]; rfl)
                have hlh := hs1.own.len
                have ht0 := hs1.tot
                have hat0' := hs1.at0
                have hat1' := hs1.at1
                have l3 : Below wr.heap.size wr (wr.alloc (.cells #[.slice L j2 k] 22)) := (Below.refl _ _).alloc (Nat.le_refl _) _
                have c1 : wr.cell? ⟨g, 0, none⟩ = some (.slice Q j cp) := (row_cells hs1.rc.row 0).1
                have rc3 := hs1.rc.below l3
                have own3 := (hs1.own.mono (show w.heap.size ≤ w3.heap.size from S3.out.2.2.bel.size)).below l3
                have bel3 := hs1.bel.trans (l3.mono hs1.bel.size)
                have Y := Lib.hid (And.intro hcx (And.intro rc3 (And.intro own3 (And.intro bel3 hlh))))
                clear hs1 hcx l3 rc3 own3 bel3
                go_wp2_with (at_builtin; refine Stop.mk ?_)
                refine Stop.out ?_
                refine appP _ rfl (.tmp 84) (.tmp 86) rfl w.heap.size Q j cp _ rfl Y.out.2.1.pages ⟨some ⟨wr.heap.size, 0, none⟩, 1, 1, [.slice L j2 k]⟩ rfl ⟨(Own.lit (base := 0) (e := 22) (size := 1) (G := fun _ => True) wr #[.slice L j2 k] 1 (Nat.zero_le _) (by decide) rfl (fun _ _ => trivial)).rd, fun u hu => by rcases List.mem_singleton.1 hu with rfl; rfl⟩ (by show j + 1 ≤ _; omega) Y.out.2.2.2.1.size ?_
                intro A4 k4' w4 ho4 hg4
                have rc4 := RC.next (y := ⟨L, j2, k, hs⟩) Y.out.2.1 hg4 ho4 Y.out.2.2.1
                have r4 := Y.out.2.1.row4 hg4
                have f4 := (row_cells r4 0).2
                have c4 := (row_cells r4 0).1
                have bel4 : Below w.heap.size w w4 := Y.out.2.2.2.1.grown hg4 Y.out.2.2.2.1.size (fun g hg => (Own.lt Y.out.2.1.pages g hg).1)
                have bel5 := bel4.setCell (p := ⟨g, 0, none⟩) hg1 (.slice A4 (j + 1) k4')
                have V := Lib.hid (And.intro rc4 bel5)
                clear ho4 hg4 rc4 r4 bel4 bel5
                go_wp2_with (fail)
                go_roundw
                case rel =>
                  have hrn := S3.out.1.trans (by rw [pagesA_next (pageR_good S3.out.2.1 Y.out.1), if_pos rfl])
                  have hcl : (cns hs).length = j2 := by rw [cns_length, Y.out.2.2.2.2]
                  refine ⟨j + 1, at3, tot + j2, false && (decide (0 < (j2 : Int)) && decide ((j2 : Int) ≤ 8)), acc ++ [cns hs], A4, k4', gs ++ [⟨L, j2, k, hs⟩], by omega, rfl, ?_, rfl, by go_num, ⟨V.out.2, V.out.1, by rw [hrn, hcl], by omega, hat1', ?_, by omega, ?_⟩⟩
                  · rfl
                  · rw [allC_app, List.length_append, ← HCNT.out]
                    show _ = _ + (hs ++ []).length
                    rw [List.append_nil, Y.out.2.2.2.2]
                  · unfold pgsOf
                    rw [List.map_append]
                    show pgsOf gs ++ [cns hs] = _
                    rw [HPGS.out]
                case measure => simp [intOf]; omega
          | true =>
            by_cases hM : M = 0
            · have z0 : ((M : Int) == 0) = true := by simp [hM]
              have z0b : (M == 0) = true := by simp [hM]
              have HM := Lib.hid hM
              clear hM
              go_wp2_with (fail)
              refine G.out.mono ?_
              rintro e w3 ⟨rfl, hb3⟩
              have S3 := Lib.hid (And.intro S.out.2 (And.intro hgc2 (START.out w3 hb3)))
              clear hb3
              go_wp2_with (fail)
              go_loopw [5, 9, 14, 15] (fun a mn l i wr => ∃ (j2 : Nat) (at3 : Int) (L : Option Addr) (k : Nat) (hs : List Cm), j2 ≤ M ∧ a = .int .i64 at3 ∧ mn = .int .i64 ((tot + j2 : Nat) : Int) ∧ l = .slice L j2 k ∧ i = .int .u64 j2 ∧ RqR w w3 wr g tot M Q j cp gs b x2 j2 at3 L k hs) (fun _ _ _ i _ => M - (intOf i).toNat)
              case atStart => exact ⟨0, x2, none, 0, [], by omega, rfl, rfl, rfl, rfl, S3.out.2.2⟩
              case round =>
                obtain ⟨j2, at3, L, k, hs, hj2, rfl, rfl, rfl, rfl, hs1⟩ := hrel
                by_cases hlt2 : j2 < M
                · obtain ⟨d, nx2, q2, hgc2⟩ : ∃ d nx2 q2, getCF b at3 = (d, nx2, q2) := ⟨_, _, _, rfl⟩
                  have hrun := hs1.run
                  rw [show M - j2 = (M - (j2 + 1)) + 1 by omega, coinsA_next hgc2] at hrun
                  have d1 : decide ((j2 : Int) < (M : Int)) = true := decide_eq_true (by omega)
                  have hdo : d.ok := by have := getCF_ok HB.out.isB at3; rw [hgc2] at this; exact this
                  have hdl : d.l.length ≤ 100 := by have := getCF_len b at3; rw [hgc2] at this; exact this
                  have ht0 := hs1.tot
                  have hat0' := hs1.at0
                  have hat1' := hs1.at1
                  have G2 := Lib.hid (rgetC_is (HB.out.past hs1.bel) (by omega) hgc2)
                  obtain ⟨T, hT⟩ : ∃ T, tot + j2 = T := ⟨_, rfl⟩
                  have hTle : T ≤ 2000 := by omega
                  rw [hT] at hrun
                  rw [hT]
                  have S4 := Lib.hid (And.intro hs1 (And.intro hrun hT))
                  clear hs1 hrun hT
                  go_wp2_with (fail)
                  refine G2.out.mono ?_
                  rintro e w5 ⟨A5, k5', rfl, ho5, hb5⟩
                  have hokd := cc_ok (m := ⟨d, A5, k5'⟩) hdo.p
                  have sl := slot_self w5 (.cells (cc zm).toArray 57) (cc ⟨d, A5, k5'⟩).toArray
                  have hbs := bThen hb5 sl
                  have bel5 := S4.out.1.bel.trans (hbs.mono S4.out.1.bel.size)
                  by_cases hq2 : q2 = 0
                  · subst hq2
                    have hw : IntKind.i64.wrap ((T : Int) + 1) = (T : Int) + 1 := wrap_i64s (by omega)
                    by_cases hT2 : T = 2000
                    · have e3 : decide ((T : Int) + 1 > 2000) = true := decide_eq_true (by omega)
                      have e3b : (2000 : Int) < (T : Int) + 1 := by omega
                      have hc : coinsA b M x2 tot [] = ([], 0, 3) := S4.out.2.1.trans (by rw [if_pos rfl, if_pos hT2])
                      have hX := rd_err (e := 3) HR.out (S3.out.1.trans (by rw [pagesA_next (pageR_bad S3.out.2.1 hc (by decide)), if_neg (by decide)])) (by decide)
                      have B5 := Lib.hid (And.intro bel5 hX)
                      clear bel5 hbs sl ho5 hb5 hX hc hT2
                      go_wp2_with (fail)
                      go_ret2
                      exact rreadEnd.err B5.out.1 (by decide) B5.out.2
                    · have e3 : decide ((T : Int) + 1 > 2000) = false := decide_eq_false (by omega)
                      have e3b : ¬ ((2000 : Int) < (T : Int) + 1) := by omega
                      have rc5 := S4.out.1.rc.below hbs
                      have own5 := S4.out.1.own.below hbs
                      have ownd : OwnB ((w5.alloc (.cells (cc zm).toArray 57)).setRow w5.heap.size (cc ⟨d, A5, k5'⟩).toArray) w3.heap.size A5 d.l.length k5' d.l := OwnN.mono (OwnN.below ho5 sl) S4.out.1.sz
                      have box5 := both_row w5 (cc zm).toArray 57 (cc ⟨d, A5, k5'⟩).toArray
                      have hszW : ((w5.alloc (.cells (cc zm).toArray 57)).setRow w5.heap.size (cc ⟨d, A5, k5'⟩).toArray).heap.size = w5.heap.size + 1 := by simp
                      have orow := one_row ((w5.alloc (.cells (cc zm).toArray 57)).setRow w5.heap.size (cc ⟨d, A5, k5'⟩).toArray) ⟨d, A5, k5'⟩ hdo.p
                      rw [hszW] at orow
                      have l3 : Below ((w5.alloc (.cells (cc zm).toArray 57)).setRow w5.heap.size (cc ⟨d, A5, k5'⟩).toArray).heap.size ((w5.alloc (.cells (cc zm).toArray 57)).setRow w5.heap.size (cc ⟨d, A5, k5'⟩).toArray) (((w5.alloc (.cells (cc zm).toArray 57)).setRow w5.heap.size (cc ⟨d, A5, k5'⟩).toArray).alloc (.cells (cc ⟨d, A5, k5'⟩).toArray 57)) := (Below.refl _ _).alloc (Nat.le_refl _) _
                      have rc6 := rc5.below l3
                      have own6 := own5.below l3
                      have ownd6 := OwnN.below ownd l3
                      have bel6 := bel5.trans (l3.mono bel5.size)
                      have sz6 : w3.heap.size ≤ w5.heap.size := Nat.le_trans S4.out.1.sz hb5.size
                      have hzz := l3.size
                      have hpg : ∀ x ∈ gs, ∀ g, blk x.A = some g → blk L ≠ some g := fun x hx g h1 h2 => by
                        have k1 := (Own.lt (S3.out.2.2.rc.own x hx).row g h1).2
                        have k2 := (Own.lt S4.out.1.own.row g h2).1
                        omega
                      have X := Lib.hid (And.intro rc6 (And.intro own6 (And.intro ownd6 (And.intro bel6 (And.intro orow hpg)))))
                      clear bel5 hbs sl ho5 hb5 rc5 own5 ownd box5 orow l3 rc6 own6 ownd6 bel6 hpg
                      go_wp2_with (at_builtin; refine Stop.mk ?_)
                      refine Stop.out ?_
                      refine wpList_appP _ rfl (.tmp 75) (.tmp 77) rfl w3.heap.size L j2 k hs rfl X.out.2.1 (some ⟨w5.heap.size + 1, 0, none⟩) 1 1 [⟨d, A5, k5'⟩] rfl X.out.2.2.2.2.1 rfl (fun z hz => by rcases List.mem_singleton.1 hz with rfl; exact ⟨hdo, X.out.2.2.1, by show d.l.length ≤ _; omega⟩) (by omega) (by omega) ?_
                      intro A4 k4' w4 ho4 hg4
                      have bel4 : Below w.heap.size w w4 := X.out.2.2.2.1.grown hg4 X.out.2.2.2.1.size (fun g hg => Nat.le_trans S3.out.2.2.bel.size (Own.lt X.out.2.1.row g hg).1)
                      have rc4 := X.out.1.coins X.out.2.1 hg4 X.out.2.2.2.2.2
                      have sz4 : w3.heap.size ≤ w4.heap.size := by have := hg4.size; omega
                      have E4 : coinsA b M x2 tot [] = coinsA b (M - (j2 + 1)) nx2 (T + 1) (cns (hs ++ [⟨d, A5, k5'⟩])) := by
                        rw [S4.out.2.1, if_pos trivial, if_neg hT2, cns_append]; rfl
                      have hnx := getCF_next HB.out.isB (at_ := at3) (by rw [hgc2])
                      rw [hgc2] at hnx
                      have Y := Lib.hid (And.intro ho4 (And.intro bel4 (And.intro rc4 (And.intro E4 hnx))))
                      clear ho4 bel4 rc4 E4 hnx hg4
                      go_wp2_with (fail)
                      go_roundw
                      case rel =>
                        obtain ⟨y1, y2, y3, y4, y5⟩ := Y.out
                        have hT9 := S4.out.2.2
                        refine ⟨j2 + 1, nx2, A4, k4', hs ++ [⟨d, A5, k5'⟩], by omega, rfl, by rw [← hT9]; go_num, rfl, by go_num, ⟨y2, y3, y1, sz4, ?_, by simp only at y5; omega, y5.2.2, by omega⟩⟩
                        rw [show tot + (j2 + 1) = T + 1 by omega]; exact y4
                      case measure => simp [intOf]; omega
                  · have e2 : (q2 != 0) = true := by simpa using hq2
                    have hc : coinsA b M x2 tot [] = ([], 0, q2) := S4.out.2.1.trans (by rw [if_neg hq2])
                    have hX := rd_err HR.out (S3.out.1.trans (by rw [pagesA_next (pageR_bad S3.out.2.1 hc hq2), if_neg hq2])) hq2
                    have B5 := Lib.hid (And.intro bel5 (And.intro hq2 hX))
                    clear bel5 hbs sl ho5 hb5 hq2 hX hc
                    go_wp2_with (fail)
                    go_ret2
                    exact rreadEnd.err B5.out.1 B5.out.2.1 B5.out.2.2
                · obtain rfl : j2 = M := by omega
                  have d1 : decide ((j2 : Int) < (j2 : Int)) = false := decide_eq_false (by omega)
                  have hcx : coinsA b j2 x2 tot [] = (cns hs, at3, 0) := hs1.run.trans (by rw [Nat.sub_self]; rfl)
                  have hlh := hs1.own.len
                  have ht0 := hs1.tot
                  have hat0' := hs1.at0
                  have hat1' := hs1.at1
                  have l3 : Below wr.heap.size wr (wr.alloc (.cells #[.slice L j2 k] 22)) := (Below.refl _ _).alloc (Nat.le_refl _) _
                  have c1 : wr.cell? ⟨g, 0, none⟩ = some (.slice Q j cp) := (row_cells hs1.rc.row 0).1
                  have rc3 := hs1.rc.below l3
                  have own3 := (hs1.own.mono (show w.heap.size ≤ w3.heap.size from S3.out.2.2.bel.size)).below l3
                  have bel3 := hs1.bel.trans (l3.mono hs1.bel.size)
                  have Y := Lib.hid (And.intro hcx (And.intro rc3 (And.intro own3 (And.intro bel3 hlh))))
                  clear hs1 hcx l3 rc3 own3 bel3
                  go_wp2_with (at_builtin; refine Stop.mk ?_)
                  refine Stop.out ?_
                  refine appP _ rfl (.tmp 84) (.tmp 86) rfl w.heap.size Q j cp _ rfl Y.out.2.1.pages ⟨some ⟨wr.heap.size, 0, none⟩, 1, 1, [.slice L j2 k]⟩ rfl ⟨(Own.lit (base := 0) (e := 22) (size := 1) (G := fun _ => True) wr #[.slice L j2 k] 1 (Nat.zero_le _) (by decide) rfl (fun _ _ => trivial)).rd, fun u hu => by rcases List.mem_singleton.1 hu with rfl; rfl⟩ (by show j + 1 ≤ _; omega) Y.out.2.2.2.1.size ?_
                  intro A4 k4' w4 ho4 hg4
                  have rc4 := RC.next (y := ⟨L, j2, k, hs⟩) Y.out.2.1 hg4 ho4 Y.out.2.2.1
                  have r4 := Y.out.2.1.row4 hg4
                  have f4 := (row_cells r4 0).2
                  have c4 := (row_cells r4 0).1
                  have bel4 : Below w.heap.size w w4 := Y.out.2.2.2.1.grown hg4 Y.out.2.2.2.1.size (fun g hg => (Own.lt Y.out.2.1.pages g hg).1)
                  have bel5 := bel4.setCell (p := ⟨g, 0, none⟩) hg1 (.slice A4 (j + 1) k4')
                  have V := Lib.hid (And.intro rc4 bel5)
                  clear ho4 hg4 rc4 r4 bel4 bel5
                  go_wp2_with (fail)
                  go_roundw
                  case rel =>
                    have hrn := S3.out.1.trans (by rw [pagesA_next (pageR_good S3.out.2.1 Y.out.1), if_pos rfl])
                    have hcl : (cns hs).length = j2 := by rw [cns_length, Y.out.2.2.2.2]
                    refine ⟨j + 1, at3, tot + j2, true && (decide (0 < (j2 : Int)) && decide ((j2 : Int) ≤ 8)), acc ++ [cns hs], A4, k4', gs ++ [⟨L, j2, k, hs⟩], by omega, rfl, ?_, rfl, by go_num, ⟨V.out.2, V.out.1, by rw [hrn, hcl], by omega, hat1', ?_, by omega, ?_⟩⟩
                    · have h9 := HM.out; simp [h9]
                    · rw [allC_app, List.length_append, ← HCNT.out]
                      show _ = _ + (hs ++ []).length
                      rw [List.append_nil, Y.out.2.2.2.2]
                    · unfold pgsOf
                      rw [List.map_append]
                      show pgsOf gs ++ [cns hs] = _
                      rw [HPGS.out]
                  case measure => simp [intOf]; omega
            · have z0 : ((M : Int) == 0) = false := by simp; omega
              have z0b : (M == 0) = false := by simp; omega
              obtain ⟨z8, hz8⟩ : ∃ z8, decide (8 < M) = z8 := ⟨_, rfl⟩
              have hz8b : decide ((M : Int) > 8) = z8 := by rw [← hz8]; exact decide_eq_decide.2 (by omega)
              have HZ := Lib.hid hz8
              go_wp2_with (fail)
              refine G.out.mono ?_
              rintro e w3 ⟨rfl, hb3⟩
              have S3 := Lib.hid (And.intro S.out.2 (And.intro hgc2 (START.out w3 hb3)))
              clear hb3
              go_wp2_with (fail)
              go_loopw [5, 9, 14, 15] (fun a mn l i wr => ∃ (j2 : Nat) (at3 : Int) (L : Option Addr) (k : Nat) (hs : List Cm), j2 ≤ M ∧ a = .int .i64 at3 ∧ mn = .int .i64 ((tot + j2 : Nat) : Int) ∧ l = .slice L j2 k ∧ i = .int .u64 j2 ∧ RqR w w3 wr g tot M Q j cp gs b x2 j2 at3 L k hs) (fun _ _ _ i _ => M - (intOf i).toNat)
              case atStart => exact ⟨0, x2, none, 0, [], by omega, rfl, rfl, rfl, rfl, S3.out.2.2⟩
              case round =>
                obtain ⟨j2, at3, L, k, hs, hj2, rfl, rfl, rfl, rfl, hs1⟩ := hrel
                by_cases hlt2 : j2 < M
                · obtain ⟨d, nx2, q2, hgc2⟩ : ∃ d nx2 q2, getCF b at3 = (d, nx2, q2) := ⟨_, _, _, rfl⟩
                  have hrun := hs1.run
                  rw [show M - j2 = (M - (j2 + 1)) + 1 by omega, coinsA_next hgc2] at hrun
                  have d1 : decide ((j2 : Int) < (M : Int)) = true := decide_eq_true (by omega)
                  have hdo : d.ok := by have := getCF_ok HB.out.isB at3; rw [hgc2] at this; exact this
                  have hdl : d.l.length ≤ 100 := by have := getCF_len b at3; rw [hgc2] at this; exact this
                  have ht0 := hs1.tot
                  have hat0' := hs1.at0
                  have hat1' := hs1.at1
                  have G2 := Lib.hid (rgetC_is (HB.out.past hs1.bel) (by omega) hgc2)
                  obtain ⟨T, hT⟩ : ∃ T, tot + j2 = T := ⟨_, rfl⟩
                  have hTle : T ≤ 2000 := by omega
                  rw [hT] at hrun
                  rw [hT]
                  have S4 := Lib.hid (And.intro hs1 (And.intro hrun hT))
                  clear hs1 hrun hT
                  go_wp2_with (fail)
                  refine G2.out.mono ?_
                  rintro e w5 ⟨A5, k5', rfl, ho5, hb5⟩
                  have hokd := cc_ok (m := ⟨d, A5, k5'⟩) hdo.p
                  have sl := slot_self w5 (.cells (cc zm).toArray 57) (cc ⟨d, A5, k5'⟩).toArray
                  have hbs := bThen hb5 sl
                  have bel5 := S4.out.1.bel.trans (hbs.mono S4.out.1.bel.size)
                  by_cases hq2 : q2 = 0
                  · subst hq2
                    have hw : IntKind.i64.wrap ((T : Int) + 1) = (T : Int) + 1 := wrap_i64s (by omega)
                    by_cases hT2 : T = 2000
                    · have e3 : decide ((T : Int) + 1 > 2000) = true := decide_eq_true (by omega)
                      have e3b : (2000 : Int) < (T : Int) + 1 := by omega
                      have hc : coinsA b M x2 tot [] = ([], 0, 3) := S4.out.2.1.trans (by rw [if_pos rfl, if_pos hT2])
                      have hX := rd_err (e := 3) HR.out (S3.out.1.trans (by rw [pagesA_next (pageR_bad S3.out.2.1 hc (by decide)), if_neg (by decide)])) (by decide)
                      have B5 := Lib.hid (And.intro bel5 hX)
                      clear bel5 hbs sl ho5 hb5 hX hc hT2
                      go_wp2_with (fail)
                      go_ret2
                      exact rreadEnd.err B5.out.1 (by decide) B5.out.2
                    · have e3 : decide ((T : Int) + 1 > 2000) = false := decide_eq_false (by omega)
                      have e3b : ¬ ((2000 : Int) < (T : Int) + 1) := by omega
                      have rc5 := S4.out.1.rc.below hbs
                      have own5 := S4.out.1.own.below hbs
                      have ownd : OwnB ((w5.alloc (.cells (cc zm).toArray 57)).setRow w5.heap.size (cc ⟨d, A5, k5'⟩).toArray) w3.heap.size A5 d.l.length k5' d.l := OwnN.mono (OwnN.below ho5 sl) S4.out.1.sz
                      have box5 := both_row w5 (cc zm).toArray 57 (cc ⟨d, A5, k5'⟩).toArray
                      have hszW : ((w5.alloc (.cells (cc zm).toArray 57)).setRow w5.heap.size (cc ⟨d, A5, k5'⟩).toArray).heap.size = w5.heap.size + 1 := by simp
                      have orow := one_row ((w5.alloc (.cells (cc zm).toArray 57)).setRow w5.heap.size (cc ⟨d, A5, k5'⟩).toArray) ⟨d, A5, k5'⟩ hdo.p
                      rw [hszW] at orow
                      have l3 : Below ((w5.alloc (.cells (cc zm).toArray 57)).setRow w5.heap.size (cc ⟨d, A5, k5'⟩).toArray).heap.size ((w5.alloc (.cells (cc zm).toArray 57)).setRow w5.heap.size (cc ⟨d, A5, k5'⟩).toArray) (((w5.alloc (.cells (cc zm).toArray 57)).setRow w5.heap.size (cc ⟨d, A5, k5'⟩).toArray).alloc (.cells (cc ⟨d, A5, k5'⟩).toArray 57)) := (Below.refl _ _).alloc (Nat.le_refl _) _
                      have rc6 := rc5.below l3
                      have own6 := own5.below l3
                      have ownd6 := OwnN.below ownd l3
                      have bel6 := bel5.trans (l3.mono bel5.size)
                      have sz6 : w3.heap.size ≤ w5.heap.size := Nat.le_trans S4.out.1.sz hb5.size
                      have hzz := l3.size
                      have hpg : ∀ x ∈ gs, ∀ g, blk x.A = some g → blk L ≠ some g := fun x hx g h1 h2 => by
                        have k1 := (Own.lt (S3.out.2.2.rc.own x hx).row g h1).2
                        have k2 := (Own.lt S4.out.1.own.row g h2).1
                        omega
                      have X := Lib.hid (And.intro rc6 (And.intro own6 (And.intro ownd6 (And.intro bel6 (And.intro orow hpg)))))
                      clear bel5 hbs sl ho5 hb5 rc5 own5 ownd box5 orow l3 rc6 own6 ownd6 bel6 hpg
                      go_wp2_with (at_builtin; refine Stop.mk ?_)
                      refine Stop.out ?_
                      refine wpList_appP _ rfl (.tmp 75) (.tmp 77) rfl w3.heap.size L j2 k hs rfl X.out.2.1 (some ⟨w5.heap.size + 1, 0, none⟩) 1 1 [⟨d, A5, k5'⟩] rfl X.out.2.2.2.2.1 rfl (fun z hz => by rcases List.mem_singleton.1 hz with rfl; exact ⟨hdo, X.out.2.2.1, by show d.l.length ≤ _; omega⟩) (by omega) (by omega) ?_
                      intro A4 k4' w4 ho4 hg4
                      have bel4 : Below w.heap.size w w4 := X.out.2.2.2.1.grown hg4 X.out.2.2.2.1.size (fun g hg => Nat.le_trans S3.out.2.2.bel.size (Own.lt X.out.2.1.row g hg).1)
                      have rc4 := X.out.1.coins X.out.2.1 hg4 X.out.2.2.2.2.2
                      have sz4 : w3.heap.size ≤ w4.heap.size := by have := hg4.size; omega
                      have E4 : coinsA b M x2 tot [] = coinsA b (M - (j2 + 1)) nx2 (T + 1) (cns (hs ++ [⟨d, A5, k5'⟩])) := by
                        rw [S4.out.2.1, if_pos trivial, if_neg hT2, cns_append]; rfl
                      have hnx := getCF_next HB.out.isB (at_ := at3) (by rw [hgc2])
                      rw [hgc2] at hnx
                      have Y := Lib.hid (And.intro ho4 (And.intro bel4 (And.intro rc4 (And.intro E4 hnx))))
                      clear ho4 bel4 rc4 E4 hnx hg4
                      go_wp2_with (fail)
                      go_roundw
                      case rel =>
                        obtain ⟨y1, y2, y3, y4, y5⟩ := Y.out
                        have hT9 := S4.out.2.2
                        refine ⟨j2 + 1, nx2, A4, k4', hs ++ [⟨d, A5, k5'⟩], by omega, rfl, by rw [← hT9]; go_num, rfl, by go_num, ⟨y2, y3, y1, sz4, ?_, by simp only at y5; omega, y5.2.2, by omega⟩⟩
                        rw [show tot + (j2 + 1) = T + 1 by omega]; exact y4
                      case measure => simp [intOf]; omega
                  · have e2 : (q2 != 0) = true := by simpa using hq2
                    have hc : coinsA b M x2 tot [] = ([], 0, q2) := S4.out.2.1.trans (by rw [if_neg hq2])
                    have hX := rd_err HR.out (S3.out.1.trans (by rw [pagesA_next (pageR_bad S3.out.2.1 hc hq2), if_neg hq2])) hq2
                    have B5 := Lib.hid (And.intro bel5 (And.intro hq2 hX))
                    clear bel5 hbs sl ho5 hb5 hq2 hX hc
                    go_wp2_with (fail)
                    go_ret2
                    exact rreadEnd.err B5.out.1 B5.out.2.1 B5.out.2.2
                · obtain rfl : j2 = M := by omega
                  have d1 : decide ((j2 : Int) < (j2 : Int)) = false := decide_eq_false (by omega)
                  have hcx : coinsA b j2 x2 tot [] = (cns hs, at3, 0) := hs1.run.trans (by rw [Nat.sub_self]; rfl)
                  have hlh := hs1.own.len
                  have ht0 := hs1.tot
                  have hat0' := hs1.at0
                  have hat1' := hs1.at1
                  have l3 : Below wr.heap.size wr (wr.alloc (.cells #[.slice L j2 k] 22)) := (Below.refl _ _).alloc (Nat.le_refl _) _
                  have c1 : wr.cell? ⟨g, 0, none⟩ = some (.slice Q j cp) := (row_cells hs1.rc.row 0).1
                  have rc3 := hs1.rc.below l3
                  have own3 := (hs1.own.mono (show w.heap.size ≤ w3.heap.size from S3.out.2.2.bel.size)).below l3
                  have bel3 := hs1.bel.trans (l3.mono hs1.bel.size)
                  have Y := Lib.hid (And.intro hcx (And.intro rc3 (And.intro own3 (And.intro bel3 hlh))))
                  clear hs1 hcx l3 rc3 own3 bel3
                  go_wp2_with (at_builtin; refine Stop.mk ?_)
                  refine Stop.out ?_
                  refine appP _ rfl (.tmp 84) (.tmp 86) rfl w.heap.size Q j cp _ rfl Y.out.2.1.pages ⟨some ⟨wr.heap.size, 0, none⟩, 1, 1, [.slice L j2 k]⟩ rfl ⟨(Own.lit (base := 0) (e := 22) (size := 1) (G := fun _ => True) wr #[.slice L j2 k] 1 (Nat.zero_le _) (by decide) rfl (fun _ _ => trivial)).rd, fun u hu => by rcases List.mem_singleton.1 hu with rfl; rfl⟩ (by show j + 1 ≤ _; omega) Y.out.2.2.2.1.size ?_
                  intro A4 k4' w4 ho4 hg4
                  have rc4 := RC.next (y := ⟨L, j2, k, hs⟩) Y.out.2.1 hg4 ho4 Y.out.2.2.1
                  have r4 := Y.out.2.1.row4 hg4
                  have f4 := (row_cells r4 0).2
                  have c4 := (row_cells r4 0).1
                  have bel4 : Below w.heap.size w w4 := Y.out.2.2.2.1.grown hg4 Y.out.2.2.2.1.size (fun g hg => (Own.lt Y.out.2.1.pages g hg).1)
                  have bel5 := bel4.setCell (p := ⟨g, 0, none⟩) hg1 (.slice A4 (j + 1) k4')
                  have V := Lib.hid (And.intro rc4 bel5)
                  clear ho4 hg4 rc4 r4 bel4 bel5
                  go_wp2_with (fail)
                  go_roundw
                  case rel =>
                    have hrn := S3.out.1.trans (by rw [pagesA_next (pageR_good S3.out.2.1 Y.out.1), if_pos rfl])
                    have hcl : (cns hs).length = j2 := by rw [cns_length, Y.out.2.2.2.2]
                    refine ⟨j + 1, at3, tot + j2, true && (decide (0 < (j2 : Int)) && decide ((j2 : Int) ≤ 8)), acc ++ [cns hs], A4, k4', gs ++ [⟨L, j2, k, hs⟩], by omega, rfl, ?_, rfl, by go_num, ⟨V.out.2, V.out.1, by rw [hrn, hcl], by omega, hat1', ?_, by omega, ?_⟩⟩
                    · rw [← HZ.out, decide_eq_true (show 0 < (j2 : Int) by omega), Bool.true_and, Bool.true_and, decide_not_le]
                    · rw [allC_app, List.length_append, ← HCNT.out]
                      show _ = _ + (hs ++ []).length
                      rw [List.append_nil, Y.out.2.2.2.2]
                    · unfold pgsOf
                      rw [List.map_append]
                      show pgsOf gs ++ [cns hs] = _
                      rw [HPGS.out]
                  case measure => simp [intOf]; omega
        · have e2 : (q2 != 0) = true := by simpa using hq2
          have hX := rd_err HR.out (S.out.2.trans (by rw [pagesA_next (pageR_err hgc2 hq2), if_neg hq2])) hq2
          have H1 := Lib.hid (And.intro hq2 hX)
          clear hq2 hX
          go_wp2_with (fail)
          refine G.out.mono ?_
          rintro e w3 ⟨rfl, hb3⟩
          have B3 := Lib.hid (S.out.1.bel.trans (hb3.mono S.out.1.bel.size))
          clear hb3
          go_wp2_with (fail)
          go_ret2
          exact rreadEnd.err B3.out H1.out.1 H1.out.2
      · obtain rfl : j = N := by omega
        have d1 : decide ((j : Int) < (j : Int)) = false := decide_eq_false (by omega)
        have hX : pagesA b j x 0 [] true = (acc, at2, right, 0) := hs.run.trans (by rw [Nat.sub_self]; rfl)
        have hat1 := hs.at1
        have hat0 := hs.at0
        have hgsl : gs.length = j := by have := hs.rc.pages.1; simpa using this
        have hacl : acc.length ≤ 30000 := by rw [← hs.pgs, pgsOf_length, hgsl]; omega
        have hafl : acc.flatten.length ≤ 2000 := by rw [← hs.pgs, ← allC_len, ← hs.cnt]; exact hs.top
        have hRT := hs.rc.rt hg1
        rw [hs.pgs] at hRT
        have AL := Lib.hid (rall_m hRT (Below.refl _ _) (by omega) (by omega))
        have hHR := HR.out
        rw [hX] at hHR
        simp only [if_true] at hHR
        obtain ⟨K, hK⟩ : ∃ K, ptsOf acc = K := ⟨_, rfl⟩
        rw [hK] at hHR
        obtain ⟨w9, hw9⟩ : ∃ w9, w9 = wr := ⟨_, rfl⟩
        subst hw9
        have Z := Lib.hid (And.intro hs (And.intro hHR (And.intro hK hRT)))
        clear hs hX hHR hK hRT HR
        go_wp2_with (fail)
        refine AL.out.mono ?_
        rintro e w10 ⟨xp, rfl, hcs, hfp, hb10, _, _, _, _⟩
        have hxl := hfp.arg.len
        have hxc := hfp.arg.cap
        have hxm := hfp.arg.max
        have hxn : xp.n ≤ 2000 := by rw [← hcs, cns_length, hxl] at hafl; exact hafl
        have hKP : K = (cns xp.hs).map Cn.p := by rw [← Z.out.2.2.1, hcs]; rfl
        have hKl : K.length = xp.n := by rw [hKP, List.length_map, cns_length, hxl]
        have V := Lib.hid (And.intro hfp (And.intro hb10 (And.intro hKP hKl)))
        clear hcs hfp hb10 hKP hKl
        go_wp2_with (fail)
        go_loopw [8, 20] (fun r i wr => ∃ (k : Nat), (k + 1 ≤ xp.n ∨ k = 0) ∧ i = .int .i64 ((k : Int) + 1) ∧ r = .bool (!(right && riseB (K.take (k + 1)))) ∧ Below w10.heap.size w10 wr) (fun _ i _ => xp.n - (intOf i).toNat)
        case atStart =>
          refine ⟨0, .inr rfl, rfl, ?_, Below.refl _ _⟩
          have : riseB (K.take 1) = true := by
            cases K with
            | nil => rfl
            | cons a r => rfl
          rw [this, Bool.and_true]
        case round =>
          obtain ⟨k, hk, rfl, rfl, hbel⟩ := hrel
          by_cases hlt3 : k + 1 < xp.n
          · have d7 : decide ((k : Int) + 1 < (xp.n : Int)) = true := decide_eq_true (by omega)
            obtain ⟨ad, m1, hA1, hm1, hok1, hbk1, hcc1⟩ := (V.out.1.arg.below hbel).at_ (k := k) (by omega)
            obtain ⟨ad2, m2, hA2, hm2, hok2, hbk2, hcc2⟩ := (V.out.1.arg.below hbel).at_ (k := k + 1) (by omega)
            obtain rfl : ad = ad2 := Option.some.inj (hA1.symm.trans hA2)
            have hpc : ∀ {m : Cm} {x : Addr}, (∀ j v, (cc m)[j]? = some v → wr.cell? (x.add j) = some v) → ∀ j u, (pc m.c.p)[j]? = some u → wr.cell? (x.add j) = some u := fun {m x} h j u hu => h j u (by
              have := (List.getElem?_eq_some_iff.1 hu).1
              unfold cc
              rw [List.getElem?_append_left this]
              exact hu)
            have h1 : K[k]? = some m1.c.p := by rw [V.out.2.2.1]; unfold cns; rw [List.getElem?_map, List.getElem?_map, hm1]; rfl
            have h2 : K[k + 1]? = some m2.c.p := by rw [V.out.2.2.1]; unfold cns; rw [List.getElem?_map, List.getElem?_map, hm2]; rfl
            have hrt := riseB_take K h1 h2
            have hw9 : IntKind.i64.wrap (k : Int) = (k : Int) := wrap_i64s (by omega)
            have hw9b : IntKind.i64.wrap ((k : Int) + 1 - 1) = (k : Int) := by rw [wrap_i64s (by omega)]; omega
            have hw9c : IntKind.i64.wrap ((k : Int) + 1 + 1) = (k : Int) + 1 + 1 := wrap_i64s (by omega)
            have i1 : (0 : Int) ≤ (k : Int) := by omega
            have i2' : (k : Int) < (xp.n : Int) := by omega
            have i3 : (0 : Int) ≤ (k : Int) + 1 := by omega
            have i4 : (k : Int) + 1 < (xp.n : Int) := by omega
            have tn : ((k : Int) + 1).toNat = k + 1 := by omega
            obtain ⟨rb, hrb⟩ : ∃ rb, (right && riseB (K.take (k + 1))) = rb := ⟨_, rfl⟩
            rw [hrb, hA1]
            cases rb with
            | false =>
              have hr2 : (right && riseB (K.take (k + 1 + 1))) = false := by
                cases right with
                | false => rfl
                | true => rw [Bool.true_and] at hrb ⊢; exact riseB_less hrb
              rw [Bool.not_false]
              have R2 := Lib.hid (And.intro hr2 hbel)
              clear hr2 hrb hrt hbel hm1 hm2 hok1 hok2 hcc1 hcc2 h1 h2 hA2
              go_wp2_with (fail)
              go_quiet (fail)
              have hbn := Lib.hid (belN (Below.refl wr.heap.size wr) ‹Nat›)
              go_wp2_with (fail)
              go_roundw
              case rel => exact ⟨k + 1, .inl (by omega), by go_num, by rw [R2.out.1]; rfl, bThen R2.out.2 hbn.out⟩
              case measure => simp [intOf]; omega
            | true =>
              have hrr : right = true := by rw [Bool.and_eq_true] at hrb; exact hrb.1
              have hrk : riseB (K.take (k + 1)) = true := by rw [Bool.and_eq_true] at hrb; exact hrb.2
              obtain ⟨lb, hlb⟩ : ∃ lb, lessF m1.c.p m2.c.p = lb := ⟨_, rfl⟩
              have hr2 : (right && riseB (K.take (k + 1 + 1))) = lb := by rw [hrr, Bool.true_and, show k + 1 + 1 = k + 2 from rfl, hrt, hrk, Bool.true_and, hlb]
              have hS1 : StLL (ad.add (k * 37)) m1.c.p (ad.add ((k + 1) * 37)) m2.c.p wr.drew := StLL.of (Below.refl _ _).drew hok1.c.p (by rw [block_add]; exact hbk1) (hpc hcc1) hok2.c.p (by rw [block_add]; exact hbk2) (hpc hcc2)
              have BB := Lib.hid (And.intro hbel (And.intro hok1 (And.intro hok2 (And.intro hlb (And.intro hbk1 (And.intro hbk2 (And.intro (hpc hcc1) (And.intro (hpc hcc2) hr2))))))))
              clear hbel hm1 hm2 hok1 hok2 hlb hcc1 hcc2 hA2 hpc hr2 hrr hrk hrb hrt h1 h2
              go_wp2_with (fail)
              go_region_held3 (fun w' => StLL (ad.add (k * 37)) m1.c.p (ad.add ((k + 1) * 37)) m2.c.p w') (first | exact hS2 | exact hS1)
                (first | (go_at_call 35; (with_reducible refine (rless_is BB.out.2.1.c.p BB.out.2.2.1.c.p BB.out.2.2.2.1).mono ?_); rintro e w12 ⟨rfl, hb12⟩; have hS2 : StLL (ad.add (k * 37)) m1.c.p (ad.add ((k + 1) * 37)) m2.c.p w12 := StLL.of ((Below.refl _ _).drew.trans hb12) BB.out.2.1.c.p (by rw [block_add]; exact BB.out.2.2.2.2.1) BB.out.2.2.2.2.2.2.1 BB.out.2.2.1.c.p (by rw [block_add]; exact BB.out.2.2.2.2.2.1) BB.out.2.2.2.2.2.2.2.1))
              rename_i hHeldX
              have B12 := Lib.hid (bThen BB.out.1 ((Below.refl wr.heap.size wr).drew.trans hb12))
              clear hHeldX hS1 hS2 hb12
              go_wp2_with (fail)
              go_roundw
              case rel => exact ⟨k + 1, .inl (by omega), by go_num, by rw [BB.out.2.2.2.2.2.2.2.2], B12.out⟩
              case measure => simp [intOf]; omega
          · have d7 : decide ((k : Int) + 1 < (xp.n : Int)) = false := decide_eq_false (by omega)
            have e2 : K.take (k + 1) = K := List.take_of_length_le (by rw [V.out.2.2.2]; omega)
            rw [e2]
            have hHR := Z.out.2.1
            obtain ⟨rb, hrb⟩ : ∃ rb, (right && riseB K) = rb := ⟨_, rfl⟩
            rw [hrb] at hHR
            rw [hrb]
            have B1 := Lib.hid (Z.out.1.bel.trans (bThen V.out.2.1 hbel |>.mono Z.out.1.bel.size))
            have B2 := Lib.hid (bThen V.out.2.1 hbel)
            have R := Lib.hid (And.intro hrb hHR)
            clear e2 hrb hHR hbel
            cases rb with
            | false =>
              have hq : q = 5 := by
                have h := R.out.2
                rw [if_neg (by simp)] at h
                exact (Prod.mk.inj h).2.symm
              have Qh := Lib.hid hq
              clear hq
              go_wp2_with (fail)
              go_ret2
              exact rreadEnd.err B1.out (by decide) Qh.out
            | true =>
              by_cases hend : at2 < (n : Int)
              · have d5 : decide (at2 < (n : Int)) = true := decide_eq_true hend
                have hq : q = 5 := by
                  have h := R.out.2
                  rw [if_neg (by rintro ⟨_, h2⟩; omega)] at h
                  exact (Prod.mk.inj h).2.symm
                have Qh := Lib.hid hq
                clear hq
                go_wp2_with (fail)
                go_ret2
                exact rreadEnd.err B1.out (by decide) Qh.out
              · have d5 : decide (at2 < (n : Int)) = false := decide_eq_false hend
                have hq : ps = acc ∧ q = 0 := by
                  have h := R.out.2
                  rw [if_pos ⟨rfl, by omega⟩] at h
                  exact ⟨(Prod.mk.inj h).1.symm, (Prod.mk.inj h).2.symm⟩
                have Qh := Lib.hid hq
                clear hq
                go_wp2_with (fail)
                go_ret2
                exact ⟨B1.out, .inr ⟨Qh.out.2, g, Q, rfl, by rw [Qh.out.1]; exact Z.out.2.2.2.below B2.out⟩⟩
  · have e1 : (q1 != 0) = true := by simpa using hq1
    have hr2 : q = q1 := by
      unfold readTF at hr
      rw [hgc, if_neg hq1] at hr
      exact (Prod.mk.inj hr).2.symm
    have H1 := Lib.hid (And.intro hq1 hr2)
    clear hr hgc hb hq1 hr2
    go_enter Try.func36, Try.ntmps36
    go_wp2_with (fail)
    refine C.out.mono ?_
    rintro e w1 ⟨rfl, hb1⟩
    go_wp2_with (fail)
    go_ret2
    exact rreadEnd.err hb1 H1.out.1 H1.out.2
end Go.Proofs.Ytofclanljhfkiaa
/- The law's comparison of the program's table and the reference's. -/
namespace Go.Proofs.Ytofclanljhfkiaa
open Go.RowKit Go.Proofs En Co
set_option linter.unusedVariables false
set_option linter.unusedSimpArgs false
set_option maxRecDepth 20000

set_option maxRecDepth 20000 in
set_option maxHeartbeats 4000000 in
theorem alike24_any {w : World} {b1 g b2 g2 : Nat} {P Q : Option Addr} {ps : List (List Cn)} (ht : Tb w b1 g P ps) (hr : RT w b2 g2 Q ps) :
    Calls Try.prog 37 #[ptr g, ptr g2] w fun e w' => e = .returned (.bool true) ∧ Below w.heap.size w w' := by
  have hm1 := ht.most
  have hm2 := ht.many
  obtain ⟨np, cp, gs, h1, h2, _, _, _, h6, _⟩ := hr.ex
  have hnp : ps.length = np := by rw [← h6, pgsOf_length]; have := h2.1; simpa using this
  have H := Lib.hid (And.intro ht (And.intro hr h1))
  clear ht hr h1 h2 h6
  go_enter Try.func37, Try.ntmps37
  go_wp2_with (fail)
  go_loopw [5] (fun i wr => ∃ (j : Nat), j ≤ np + 1 ∧ i = .int .i64 j ∧ Below w.heap.size w wr) (fun i _ => np + 1 - (intOf i).toNat)
  case atStart => exact ⟨0, by omega, rfl, Below.refl _ _⟩
  case round =>
    obtain ⟨j, hj, rfl, hbel⟩ := hrel
    have c1 : wr.cell? ⟨g2, 0, none⟩ = some (.slice Q np cp) := (row_cells (kept H.out.2.2 hbel) 0).1
    by_cases hlt : j ≤ np
    · have d1 : decide ((j : Int) ≤ (np : Int)) = true := decide_eq_true (by omega)
      have PG := page_m (H.out.1.below hbel) (j : Int) ⟨by omega, by omega⟩
      obtain ⟨l, q, hlq⟩ : ∃ l q, pageM ps (j : Int) = (l, q) := ⟨_, _, rfl⟩
      rw [hlq] at PG
      have PG := Lib.hid PG
      have X := Lib.hid (And.intro hbel hlq)
      clear hbel hlq
      go_wp2_with (fail)
      refine PG.out.mono ?_
      rintro e w3 ⟨A3, d3, hs3, rfl, hc3, ho3, hb3⟩
      have B3 := bThen X.out.1 hb3
      have RP := rpage_m (H.out.2.1.below B3) (j : Int)
      rw [X.out.2] at RP
      have RP := Lib.hid RP
      have Y := Lib.hid (And.intro B3 (And.intro hc3 ho3))
      clear B3 hc3 ho3 hb3
      go_wp2_with (fail)
      refine RP.out.mono ?_
      rintro e w4 ⟨rfl, x, rfl, hcx, hfx⟩
      have SM := rsameL_any A3 l.length d3 hs3 x.A x.n x.c x.hs w4 Y.out.2.2.arg hfx.arg
      rw [show decide (cns hs3 = cns x.hs) = true from decide_eq_true (by rw [Y.out.2.1, hcx])] at SM
      have SM := Lib.hid SM
      have dq : (q == q) = true := beq_self_eq_true _
      clear hcx hfx
      go_wp2_with (fail)
      refine SM.out.mono ?_
      rintro e w5 ⟨rfl, hb5⟩
      have B5 := Lib.hid (bThen Y.out.1 hb5)
      clear hb5
      go_wp2_with (fail)
      go_roundw
      case rel => exact ⟨j + 1, by omega, by go_num, B5.out⟩
      case measure => simp [intOf]; omega
    · have d1 : decide ((j : Int) ≤ (np : Int)) = false := decide_eq_false (by omega)
      have LN := Lib.hid (len_m (H.out.1.below hbel))
      have RL := Lib.hid (rlen_m (H.out.2.1.below hbel) (by omega) (by omega))
      have AL := Lib.hid (all_m (H.out.1.below hbel))
      obtain ⟨l, hl⟩ : ∃ l, ps.flatten = l := ⟨_, rfl⟩
      rw [hl] at LN RL AL hm1
      have X := Lib.hid (And.intro hbel hl)
      have dl : ((l.length : Int) == (l.length : Int)) = true := beq_self_eq_true _
      clear hbel hl
      go_wp2_with (fail)
      refine LN.out.mono ?_
      rintro e w2 ⟨rfl, hw2⟩
      obtain rfl : wr = w2 := hw2.symm
      clear hw2
      go_wp2_with (fail)
      refine RL.out.mono ?_
      rintro e w2 ⟨rfl, hw2⟩
      obtain rfl : wr = w2 := hw2.symm
      clear hw2
      go_wp2_with (fail)
      refine AL.out.mono ?_
      rintro e w3 ⟨A3, d3, hs3, rfl, hc3, ho3, hb3⟩
      have B3 := bThen X.out.1 hb3
      have RA := Lib.hid (rall_m (H.out.2.1.below B3) (Below.refl _ _) (by rw [X.out.2]; omega) (by omega))
      have Y := Lib.hid (And.intro B3 (And.intro hc3 ho3))
      clear B3 hc3 ho3 hb3
      go_wp2_with (fail)
      refine RA.out.mono ?_
      rintro e w4 ⟨x, rfl, hcx, hfx, hb4, _⟩
      have B4 := bThen Y.out.1 hb4
      have SM := rsameL_any A3 l.length d3 hs3 x.A x.n x.c x.hs w4 (Y.out.2.2.below hb4).arg hfx.arg
      rw [show decide (cns hs3 = cns x.hs) = true from decide_eq_true (by rw [Y.out.2.1, hcx, X.out.2])] at SM
      have SM := Lib.hid SM
      have Z := Lib.hid B4
      clear hcx hfx hb4 B4
      go_wp2_with (fail)
      refine SM.out.mono ?_
      rintro e w5 ⟨rfl, hb5⟩
      have B5 := bThen Z.out hb5
      have SU := sum_m (H.out.1.below B5)
      rw [X.out.2] at SU
      have SU := Lib.hid SU
      have B5 := Lib.hid B5
      have dw : (worthF l == worthF l) = true := beq_self_eq_true _
      clear hb5
      go_wp2_with (fail)
      refine SU.out.mono ?_
      rintro e w6 ⟨rfl, hb6⟩
      have B6 := bThen B5.out hb6
      have RS := rsum_m (H.out.2.1.below B6) (by rw [X.out.2]; omega) (by omega)
      rw [X.out.2] at RS
      have RS := Lib.hid RS
      have B6 := Lib.hid B6
      clear hb6
      go_wp2_with (fail)
      refine RS.out.mono ?_
      rintro e w7 ⟨rfl, hb7⟩
      have B7 := bThen B6.out hb7
      have BY := bytes_m (H.out.1.below B7)
      obtain ⟨tb, htb⟩ : ∃ tb, tableF ps = tb := ⟨_, rfl⟩
      rw [htb] at BY
      have BY := Lib.hid BY
      have B7 := Lib.hid (And.intro B7 htb)
      clear hb7 htb
      go_wp2_with (fail)
      refine BY.out.mono ?_
      rintro e w8 ⟨A8, k8, rfl, ho8, hb8⟩
      have B8 := bThen B7.out.1 hb8
      have RB := rbytes_m (H.out.2.1.below B8) (by rw [X.out.2]; omega) (by omega)
      rw [B7.out.2] at RB
      have RB := Lib.hid RB
      have B8 := Lib.hid (And.intro B8 ho8)
      clear hb8 ho8
      go_wp2_with (fail)
      refine RB.out.mono ?_
      rintro e w9 ⟨A9, k9, rfl, ho9, hb9⟩
      have hlc := Own.len_cap ho9
      have S0 := same_is (r := true) (c := k8) (d := k9) (B8.out.2.below hb9).rd ho9.rd (by have := hlc.1; have := hlc.2; unfold maxLen at *; omega) (decide_eq_true rfl)
      have S0 := Lib.hid S0
      have B9 := Lib.hid (bThen B8.out.1 hb9)
      clear hb9 ho9 hlc
      go_wp2_with (fail)
      refine S0.out.mono ?_
      rintro e w10 ⟨rfl, hb10⟩
      have B10 := Lib.hid (bThen B9.out hb10)
      clear hb10
      go_wp2_with (fail)
      go_ret
      exact ⟨rfl, B10.out⟩
end Go.Proofs.Ytofclanljhfkiaa
/- Plain: what is read is put as it was. -/
namespace Go.Proofs.Ytofclanljhfkiaa
open Go.RowKit Go.Proofs En Co
set_option linter.unusedVariables false
set_option linter.unusedSimpArgs false
set_option maxRecDepth 20000

theorem getRowF_shift {b : List Int} (hB : IsB b) (i j : Nat) (m : Int) (h : i + j ≤ b.length) : getRowF b ((i : Int) + j) m = ((getRowF (b.drop i) j m).1, (if (getRowF (b.drop i) j m).2.2 = 0 then i + (getRowF (b.drop i) j m).2.1 else 0), (getRowF (b.drop i) j m).2.2) := by
  have s1 := getCountF_shift b (i + j) h
  have s2 := getCountF_shift (b.drop i) j (by rw [List.length_drop]; omega)
  rw [List.drop_drop] at s2
  have hok := fun h => getCountF_ok (b := b.drop (i + j)) (at_ := 0) (hB.drop (i + j)) h
  rw [Int.natCast_add] at s1
  obtain ⟨v, q, e, hg⟩ : ∃ v q e, getCountF (b.drop (i + j)) 0 = (v, q, e) := ⟨_, _, _, rfl⟩
  rw [hg] at s1 s2 hok
  unfold getRowF
  rw [s1, s2]
  simp only at hok ⊢
  by_cases h1 : e = 0
  · subst h1
    simp only [if_true]
    obtain ⟨k1, k2, _, k3, k4⟩ := hok rfl
    by_cases h2 : m < 0 ∨ m < v
    · rw [if_pos h2, if_pos h2]; simp
    · rw [if_neg h2, if_neg h2]
      have e := partF_shift b i ((j : Int) + q) v (by omega) (by omega)
      rw [← Int.add_assoc] at e
      rw [e]
      by_cases h3 : (partF (b.drop i) ((j : Int) + q) v).2 = 0
      · rw [if_pos h3, if_pos h3]; simp; omega
      · rw [if_neg h3, if_neg h3]; simp [h3]
  · rw [if_neg h1, if_neg h1]; simp [h1]

theorem getCF_shift {b : List Int} (hB : IsB b) {i : Nat} (hi : i ≤ b.length) {d : Cn} {nx : Int} (h : getCF b i = (d, nx, 0)) : getCF (b.drop i) 0 = (d, nx - i, 0) := by
  have eG : ∀ j m : Int, 0 ≤ j → getF b ((i : Int) + j) m = getF (b.drop i) (0 + j) m := fun j m hj => by rw [Int.zero_add]; exact getF_shift b i j m hi hj
  have eV : valueF b ((i : Int) + 38) = valueF (b.drop i) (0 + 38) := by unfold valueF; rw [eG 38 8 (by decide)]
  have eP : partF b i 38 = partF (b.drop i) 0 38 := by have := partF_shift b i 0 38 hi (by decide); rwa [Int.add_zero] at this
  unfold getCF at h
  rw [eV, eG 46 1 (by decide)] at h
  split at h
  · rename_i h1
    split at h
    · rename_i h2
      split at h
      · rename_i h3
        split at h
        · injection h with _ h; injection h with _ h; cases h
        · rename_i h4
          have hp : (partF b i 38).2 = 0 := by
            unfold getPF at h1
            split at h1
            · assumption
            · exact h1
          have hp2 := hp
          rw [eP] at hp2
          have hl : i + 47 ≤ b.length := by
            obtain ⟨y, hy⟩ : ∃ v, getF (b.drop i) (0 + 46) 1 = (v, 0) := ⟨_, Prod.ext rfl h3⟩
            obtain ⟨_, k2, k3, _⟩ := getF_back (hB.drop i) hy
            rw [List.length_drop] at k3
            omega
          have eR := getRowF_shift hB i 47 100 hl
          rw [show ((47 : Nat) : Int) = 47 from rfl] at eR
          rw [eR] at h
          simp only at h
          split at h
          · rename_i h5
            injection h with hd h
            injection h with hn _
            have g1 : getPF b i = (ptF (partF (b.drop i) 0 38).1, (i : Int) + 38, 0) := by unfold getPF; rw [eP, if_pos hp2]
            have g2 : getPF (b.drop i) 0 = (ptF (partF (b.drop i) 0 38).1, 0 + 38, 0) := by unfold getPF; rw [if_pos hp2]
            have h5' : (getRowF (b.drop i) (0 + 47) 100).2.2 = 0 := h5
            unfold getCF
            rw [g2, if_pos rfl, if_pos h2, if_pos h3, if_neg h4, if_pos h5', ← hd, g1]
            refine Prod.ext rfl (Prod.ext ?_ rfl)
            have hn : (i : Int) + (getRowF (b.drop i) (0 + 47) 100).2.1 = nx := by
              first | exact hn | (rw [if_pos h5] at hn; exact hn)
            show (getRowF (b.drop i) (0 + 47) 100).2.1 = nx - i
            omega
          · rename_i h5
            injection h with _ h
            injection h with _ h
            exact absurd h h5
      · rename_i h3; injection h with _ h; injection h with _ h; exact absurd h h3
    · rename_i h2; injection h with _ h; injection h with _ h; exact absurd h h2
  · rename_i h1; injection h with _ h; injection h with _ h; exact absurd h h1

/-- a piece of bytes -/
def seg (b : List Int) (i j : Int) : List Int := (b.drop i.toNat).take (j.toNat - i.toNat)
theorem seg_app (b : List Int) {i j k : Int} (h0 : 0 ≤ i) (h1 : i ≤ j) (h2 : j ≤ k) : seg b i j ++ seg b j k = seg b i k := by
  unfold seg
  have e : k.toNat - i.toNat = (j.toNat - i.toNat) + (k.toNat - j.toNat) := by omega
  rw [e, List.take_add, List.drop_drop, show i.toNat + (j.toNat - i.toNat) = j.toNat by omega]
theorem seg_nil (b : List Int) (i : Int) : seg b i i = [] := by unfold seg; rw [Nat.sub_self, List.take_zero]
theorem getCF_back {b : List Int} (hB : IsB b) {at_ : Int} (h : (getCF b at_).2.2 = 0) : (putCF (getCF b at_).1).1 = seg b at_ (getCF b at_).2.1 := by
  obtain ⟨n1, n2, n3⟩ := getCF_next hB h
  obtain ⟨i, rfl⟩ : ∃ i : Nat, at_ = i := ⟨at_.toNat, by omega⟩
  obtain ⟨d, nx, hd⟩ : ∃ d nx, getCF b i = (d, nx, 0) := ⟨_, _, Prod.ext rfl (Prod.ext rfl h)⟩
  rw [hd] at n2 n3 ⊢
  simp only at n2 n3 ⊢
  have h2 := getCF_shift hB (by omega) hd
  have h3 := (get_put (hB.drop i) h2).1
  rw [h3]
  unfold seg
  rw [show (nx - (i : Int)).toNat = nx.toNat - i by omega]; rfl
theorem getCountF_back {b : List Int} (hB : IsB b) {at_ : Int} (h : (getCountF b at_).2.2 = 0) : countF (getCountF b at_).1 = seg b at_ (getCountF b at_).2.1 := by
  obtain ⟨k1, k2, k3, k4, k5⟩ := getCountF_ok hB h
  obtain ⟨i, rfl⟩ : ∃ i : Nat, at_ = i := ⟨at_.toNat, by omega⟩
  have s := getCountF_shift b i (by omega)
  have h0 : (getCountF (b.drop i) 0).2.2 = 0 := by rw [s] at h; exact h
  have hs := getCountF_same (hB.drop i) h0
  rw [s, if_pos h0]
  show countF (getCountF (b.drop i) 0).1 = seg b i ((i : Int) + (getCountF (b.drop i) 0).2.1)
  rw [hs]
  obtain ⟨_, _, q1, q2, q3⟩ := getCountF_ok (hB.drop i) h0
  unfold seg
  rw [show ((i : Int) + (getCountF (b.drop i) 0).2.1).toNat - ((i : Int)).toNat = (getCountF (b.drop i) 0).2.1.toNat by omega]; rfl
theorem coinsA_back {b : List Int} (hB : IsB b) : ∀ (k : Nat) (at_ : Int) (tot : Nat) (acc : List Cn), 0 ≤ at_ → at_ ≤ b.length → (coinsA b k at_ tot acc).2.2 = 0 →
    ∃ l, (coinsA b k at_ tot acc).1 = acc ++ l ∧ coinsF l = seg b at_ (coinsA b k at_ tot acc).2.1 ∧ at_ ≤ (coinsA b k at_ tot acc).2.1 ∧ (coinsA b k at_ tot acc).2.1 ≤ b.length
  | 0, at_, tot, acc, h0, h1, h => ⟨[], (List.append_nil _).symm, (seg_nil b at_).symm, Int.le_refl _, h1⟩
  | k + 1, at_, tot, acc, h0, h1, h => by
    unfold coinsA at *
    split at h
    · rename_i hg
      split at h
      · cases h
      · rename_i ht
        rw [if_pos hg, if_neg ht]
        obtain ⟨n1, n2, n3⟩ := getCF_next hB hg
        obtain ⟨l, e1, e2, e3, e4⟩ := coinsA_back hB k _ (tot + 1) (acc ++ [(getCF b at_).1]) (by omega) n3 h
        refine ⟨(getCF b at_).1 :: l, by rw [e1, List.append_assoc]; rfl, ?_, by omega, e4⟩
        show (putCF (getCF b at_).1).1 ++ coinsF l = _
        rw [getCF_back hB hg, e2, seg_app b h0 (by omega) e3]
    · rename_i hg
      exact absurd h hg
theorem pageR_back {b : List Int} (hB : IsB b) {at_ : Int} {tot : Nat} (ht : tot ≤ 2000) (h : (pageR b at_ tot).2.2.2 = 0) : pageF (pageR b at_ tot).1 = seg b at_ (pageR b at_ tot).2.1 ∧ at_ ≤ (pageR b at_ tot).2.1 ∧ (pageR b at_ tot).2.1 ≤ b.length := by
  obtain ⟨_, o2, o3, o4, _, o6, _⟩ := pageR_ok hB ht h
  refine ⟨?_, o2, o4⟩
  have o6' := o6
  unfold pageR at h o6 ⊢
  split at h
  · rename_i h1
    split at h
    · rename_i h2
      rw [if_pos h1, if_pos h2] at o6 ⊢
      obtain ⟨k1, k2, k3, k4, k5⟩ := getCountF_ok hB h1
      obtain ⟨l, e1, e2, e3, e4⟩ := coinsA_back hB _ _ tot [] (by omega) k5 h2
      show pageF (coinsA b (getCountF b at_).1.toNat (getCountF b at_).2.1 tot []).1 = seg b at_ (coinsA b (getCountF b at_).1.toNat (getCountF b at_).2.1 tot []).2.1
      have o6 : (coinsA b (getCountF b at_).1.toNat (getCountF b at_).2.1 tot []).1.length = (getCountF b at_).1.toNat := o6
      unfold pageF
      rw [o6, show (((getCountF b at_).1.toNat : Nat) : Int) = (getCountF b at_).1 by omega, getCountF_back hB h1, e1, List.nil_append, e2, seg_app b k3 (by omega) e3]
    · rename_i h2; exact absurd h h2
  · rename_i h1; exact absurd h h1
theorem pagesA_back {b : List Int} (hB : IsB b) : ∀ (k : Nat) (at_ : Int) (tot : Nat) (acc : List (List Cn)) (r : Bool), 0 ≤ at_ → at_ ≤ b.length → tot ≤ 2000 → (pagesA b k at_ tot acc r).2.2.2 = 0 →
    ∃ T, (pagesA b k at_ tot acc r).1 = acc ++ T ∧ T.length = k ∧ T.flatMap pageF = seg b at_ (pagesA b k at_ tot acc r).2.1 ∧ at_ ≤ (pagesA b k at_ tot acc r).2.1 ∧ (pagesA b k at_ tot acc r).2.1 ≤ b.length
  | 0, at_, tot, acc, r, h0, h1, ht, h => ⟨[], (List.append_nil _).symm, rfl, (seg_nil b at_).symm, Int.le_refl _, h1⟩
  | k + 1, at_, tot, acc, r, h0, h1, ht, h => by
    unfold pagesA at *
    split at h
    · rename_i hg
      rw [if_pos hg]
      obtain ⟨p1, _, _, _, _, _, _⟩ := pageR_ok hB ht hg
      obtain ⟨q1, q2, q3⟩ := pageR_back hB ht hg
      obtain ⟨T, e1, e2, e3, e4, e5⟩ := pagesA_back hB k _ _ _ _ (by omega) q3 p1 h
      refine ⟨(pageR b at_ tot).1 :: T, by rw [e1, List.append_assoc]; rfl, by rw [List.length_cons, e2], ?_, by omega, e5⟩
      rw [List.flatMap_cons, q1, e3, seg_app b h0 q2 e4]
    · rename_i hg
      exact absurd h hg
theorem readTF_back {b : List Int} (hB : IsB b) {ps : List (List Cn)} (h : readTF b = (ps, 0)) : tableF ps = b := by
  unfold readTF at h
  split at h
  · rename_i h1
    split at h
    · rename_i h2
      split at h
      · rename_i h3
        injection h with h4 _
        obtain ⟨k1, k2, k3, k4, k5⟩ := getCountF_ok hB h1
        obtain ⟨T, e1, e2, e3, e4, e5⟩ := pagesA_back hB _ _ 0 [] true (by omega) k5 (by omega) h2
        rw [List.nil_append] at e1
        have e6 : T = ps := e1.symm.trans h4
        subst e6
        unfold tableF
        rw [e2, show (((getCountF b 0).1.toNat : Nat) : Int) = (getCountF b 0).1 by omega, getCountF_back hB h1, e3, seg_app b k3 (by omega) e4]
        have hl := h3.2
        unfold seg
        rw [show (0 : Int).toNat = 0 from rfl, List.drop_zero, List.take_of_length_le (by omega)]
      · injection h with _ h; cases h
    · rename_i h2; injection h with _ h; exact absurd h h2
  · rename_i h1; injection h with _ h; exact absurd h h1
end Go.Proofs.Ytofclanljhfkiaa
