/- Joined texts: TbC, TbD, TbE, TbF. -/
import Derived.Test.YtofclanljhfkiaaM15
/- A table that is read. -/
namespace Go.Proofs.Ytofclanljhfkiaa
open Go.RowKit Go.Proofs En Co
set_option linter.unusedVariables false
set_option linter.unusedSimpArgs false
set_option maxRecDepth 20000
attribute [local go_sem ↓] ld_point_eq ld_coin_eq ld_hash_eq st_point_eq st_coin_eq bd_point_eq bd_coin_eq eq_point_eq ne_point_eq al_coin_eq al_point_eq bs_coin_eq
attribute [local go_sem] ld_point_run ld_coin_run ld_hash_run st_point_run st_coin_run bd_point_zero bd_coin_zero bd_point_of bd_coin_of hash_at rowIs_34 rowIs_37 rowIs_both hasAt_both cellsAt_both eq_point_run ne_point_run guard_pt al_coin_run al_point_run al_coin_row al_point_row nil_bytes nil_coins bs_coin_run

theorem pagesA_next {b : List Int} {k : Nat} {at_ : Int} {tot : Nat} {acc : List (List Cn)} {right : Bool} {cs : List Cn} {nx : Int} {ok : Bool} {q : Int} (h : pageR b at_ tot = (cs, nx, ok, q)) :
    pagesA b (k + 1) at_ tot acc right = if q = 0 then pagesA b k nx (tot + cs.length) (acc ++ [cs]) (right && ok) else ([], 0, false, q) := by
  show (if (pageR b at_ tot).2.2.2 = 0 then pagesA b k (pageR b at_ tot).2.1 (tot + (pageR b at_ tot).1.length) (acc ++ [(pageR b at_ tot).1]) (right && (pageR b at_ tot).2.2.1) else ([], 0, false, (pageR b at_ tot).2.2.2)) = _
  rw [h]
theorem allC_len (gs : List Pg) : (allC gs).length = (pgsOf gs).flatten.length := by rw [pgsOf_flat, cns_length]
theorem more1_flat (acc : List (List Cn)) : (acc.flatMap more1).flatten = acc.flatten := by
  induction acc with
  | nil => rfl
  | cons a r ih =>
    rw [List.flatMap_cons, List.flatten_append, ih, List.flatten_cons]
    congr 1
    unfold more1
    split
    · rename_i h; rw [List.eq_nil_of_length_eq_zero h]; rfl
    · simp
theorem more1_good {acc : List (List Cn)} (h : ∀ l ∈ acc, 0 < l.length) : acc.flatMap more1 = acc := by
  induction acc with
  | nil => rfl
  | cons a r ih =>
    rw [List.flatMap_cons, ih (fun l hl => h l (List.mem_cons_of_mem _ hl))]
    have := h a (List.mem_cons_self ..)
    unfold more1
    rw [if_neg (by omega)]
    rfl
theorem more1_len (cs : List Cn) : (more1 cs).flatten.length = cs.length := by
  unfold more1
  split
  · rename_i h; rw [h]; rfl
  · simp

/-- what a round of the pages' loop knows -/
structure RdR (w wr : World) (g : Nat) (b : List Int) (N : Nat) (x : Int) (j : Nat) (at_ : Int) (tot : Nat) (right : Bool) (acc : List (List Cn)) (P : Option Addr) (np cp : Nat) (gs : List Pg) : Prop where
  bel : Below w.heap.size w wr
  cop : Cop wr w.heap.size g tot P np cp gs
  run : pagesA b N x 0 [] true = pagesA b (N - j) at_ tot acc right
  at0 : 0 ≤ at_
  at1 : at_ ≤ b.length
  cnt : tot = (allC gs).length
  top : tot ≤ 2000
  pgs : pgsOf gs = acc.flatMap more1
  good : right = true → ∀ l ∈ acc, 0 < l.length ∧ l.length ≤ 8
theorem Cop.np {wr : World} {base g tot np cp : Nat} {P : Option Addr} {gs : List Pg} (h : Cop wr base g tot P np cp gs) : gs.length = np := by have := h.pages.1; simpa using this
theorem Cop.np_le {wr : World} {base g tot np cp : Nat} {P : Option Addr} {gs : List Pg} (h : Cop wr base g tot P np cp gs) : np ≤ (allC gs).length := by
  rw [← h.np]
  exact length_pages fun x hx => ⟨(h.own x hx).2.1, (h.own x hx).1.len⟩

theorem rd_err {X : List (List Cn) × Int} {r : List (List Cn) × Int × Bool × Int} {ps : List (List Cn)} {q e : Int} (h : (if r.2.2.2 = 0 then X else ([], r.2.2.2)) = (ps, q)) (hr : r = ([], 0, false, e)) (he : e ≠ 0) : q = e := by
  subst hr
  rw [if_neg he] at h
  exact (Prod.mk.inj h).2.symm
/-- a pointer to the point before -/
def LastIs (w : World) (v : Value) (K : List Pt) (t : Nat) : Prop :=
  (t = 0 ∧ v = .pointer none) ∨ (0 < t ∧ ∃ la p, v = .pointer (some la) ∧ K[t - 1]? = some p ∧ p.ok ∧ la.block < w.heap.size ∧ ∀ j u, (pc p)[j]? = some u → w.cell? (la.add j) = some u)
theorem LastIs.below {w w' : World} {v : Value} {K : List Pt} {t : Nat} (h : LastIs w v K t) (hb : Below w.heap.size w w') : LastIs w' v K t := by
  rcases h with h | ⟨h0, la, p, rfl, h1, h2, h3, h4⟩
  · exact .inl h
  · exact .inr ⟨h0, la, p, rfl, h1, h2, Nat.lt_of_lt_of_le h3 hb.size, fun j u hu => (World.cell?_of_block (by rw [block_add]; exact hb.block _ h3)).trans (h4 j u hu)⟩
theorem ld_point_of (w : World) (ad : Addr) (p : Pt) (hp : p.ok) (h : ∀ j v, (pc p)[j]? = some v → w.cell? (ad.add j) = some v) : (ld_point (.pointer (some ad))).run Try.prog w = .ok (.agg (pc p).toArray) w := by
  have := run_loadVar_at (P := Try.prog) w ad 54 (pc p) _ Try.underlying54 rfl (by rw [pc_length hp]; kernel_rfl) h
  simpa [ld_point, Instr.loadAt, Instr.sureAddr, asAddr] using this
theorem riseB_less {K : List Pt} {t : Nat} (h : riseB (K.take t) = false) : riseB (K.take (t + 1)) = false := by
  cases h2 : riseB (K.take (t + 1)) with
  | false => rfl
  | true =>
    have h3 := riseB_of.1 h2
    have h4 : Rise (K.take t) := h3.sub (List.take_sublist_take_left (Nat.le_succ t))
    rw [riseB_of.2 h4] at h
    cases h
abbrev StLL (a1 : Addr) (p1 : Pt) (a2 : Addr) (p2 : Pt) (w' : World) : Prop := (ld_point (.pointer (some a1))).run Try.prog w' = .ok (.agg (pc p1).toArray) w' ∧ (ld_point (.pointer (some a2))).run Try.prog w' = .ok (.agg (pc p2).toArray) w'

theorem StLL.of {w w' : World} {a1 a2 : Addr} {p1 p2 : Pt} (hb : Below w.heap.size w w') (h1 : p1.ok) (b1 : a1.block < w.heap.size) (c1 : ∀ j u, (pc p1)[j]? = some u → w.cell? (a1.add j) = some u) (h2 : p2.ok) (b2 : a2.block < w.heap.size) (c2 : ∀ j u, (pc p2)[j]? = some u → w.cell? (a2.add j) = some u) : StLL a1 p1 a2 p2 w' :=
  ⟨ld_point_of w' a1 p1 h1 fun j u hu => (World.cell?_of_block (by rw [block_add]; exact hb.block _ b1)).trans (c1 j u hu), ld_point_of w' a2 p2 h2 fun j u hu => (World.cell?_of_block (by rw [block_add]; exact hb.block _ b2)).trans (c2 j u hu)⟩

def readEnd (w w' : World) (e : Ending) (ps : List (List Cn)) (q : Int) : Prop :=
  Below w.heap.size w w' ∧ ((q ≠ 0 ∧ e = .returned (.tuple #[.pointer none, .int .i64 q])) ∨
    (q = 0 ∧ ∃ (g : Nat) (P : Option Addr) (np cp : Nat) (gs : List Pg), e = .returned (.tuple #[.pointer (some ⟨g, 0, none⟩), .int .i64 0]) ∧ Tab w' w.heap.size g P np cp gs ∧ pgsOf gs = ps))
theorem readEnd.err {w w' : World} {ps : List (List Cn)} {q e : Int} (hb : Below w.heap.size w w') (he : e ≠ 0) (hq : q = e) : readEnd w w' (.returned (.tuple #[.pointer none, .int .i64 e])) ps q := by
  subst hq
  exact ⟨hb, .inl ⟨he, rfl⟩⟩

set_option maxRecDepth 20000 in
set_option maxHeartbeats 2000000 in
theorem readT_any {w : World} {A : Option Addr} {n c : Nat} {b : List Int} {ps : List (List Cn)} {q : Int} (hb : Arg w A n c b) (hr : readTF b = (ps, q)) :
    Calls Try.prog 33 #[.slice A n c] w fun e w' => readEnd w w' e ps q := by
  have hlen := hb.rd.len
  have hn := hb.len
  obtain ⟨v, x, q1, hgc⟩ : ∃ v x q1, getCountF b 0 = (v, x, q1) := ⟨_, _, _, rfl⟩
  have C := Lib.hid (getCount_is hb (by omega) hgc)
  have HB := Lib.hid hb
  by_cases hq1 : q1 = 0
  · subst hq1
    obtain ⟨k1, k2, k3, k4, k5⟩ := getCountF_ok hb.isB (at_ := 0) (by rw [hgc])
    rw [hgc] at k1 k2 k4 k5
    simp only at k1 k2 k4 k5
    obtain ⟨N, rfl⟩ := Int.eq_ofNat_of_zero_le k1
    unfold readTF at hr
    rw [hgc] at hr
    simp only [Int.toNat_natCast, if_true] at hr
    have HR := Lib.hid hr
    clear hr hgc hb
    go_enter Try.func33, Try.ntmps33
    go_wp2_with (fail)
    refine C.out.mono ?_
    rintro e w1 ⟨rfl, hb1⟩
    have NW := Lib.hid (new_any w1)
    have B1 := Lib.hid hb1
    clear hb1
    go_wp2_with (fail)
    refine NW.out.mono ?_
    rintro e w2 ⟨rfl, hw2⟩
    have b2 : Below w1.heap.size w1 w2 := by rw [hw2]; exact (Below.refl _ _).alloc (Nat.le_refl _) _
    have bel2 := bThen B1.out b2
    have cop2 : Cop w2 w.heap.size w1.heap.size 0 none 0 0 [] := by
      rw [hw2]; exact ⟨heap_alloc_new w1 _, Own.nil _ _ _ _ _, fun _ h => by cases h⟩
    have s2 : RdR w w2 w1.heap.size b N x 0 x 0 true [] none 0 0 [] := ⟨bel2, cop2, rfl, by omega, k5, rfl, by omega, rfl, fun _ l hl => by cases hl⟩
    have hg1 := B1.out.size
    generalize hgg : w1.heap.size = g at *
    clear hw2 b2 bel2 cop2 hgg
    go_wp2_with (fail)
    go_loopw [5, 8, 27] (fun a r i wr => ∃ (j : Nat) (at2 : Int) (tot : Nat) (right : Bool) (acc : List (List Cn)) (P : Option Addr) (np cp : Nat) (gs : List Pg), j ≤ N ∧ a = .int .i64 at2 ∧ r = .bool right ∧ i = .int .u64 j ∧ RdR w wr g b N x j at2 tot right acc P np cp gs) (fun _ _ i _ => N - (intOf i).toNat)
    case atStart => exact ⟨0, x, 0, true, [], none, 0, 0, [], by omega, rfl, rfl, rfl, s2⟩
    case round =>
      clear s2
      obtain ⟨j, at2, tot, right, acc, P, np, cp, gs, hj, rfl, rfl, rfl, hs⟩ := hrel
      by_cases hlt : j < N
      · obtain ⟨cs, nx, ok, q2, hpr⟩ : ∃ cs nx ok q2, pageR b at2 tot = (cs, nx, ok, q2) := ⟨_, _, _, _, rfl⟩
        have hrun := hs.run
        rw [show N - j = (N - (j + 1)) + 1 by omega, pagesA_next hpr] at hrun
        have d1 : decide ((j : Int) < (N : Int)) = true := decide_eq_true (by omega)
        have hat0 := hs.at0
        have hat1 := hs.at1
        have G := Lib.hid (page_any HB.out hs.bel hs.cop hg1 hs.top (Nat.le_trans hs.cop.np_le (by rw [← hs.cnt]; exact hs.top)) (by omega) hpr)
        have hw : IntKind.u64.wrap ((j : Int) + 1) = (j : Int) + 1 := by rw [IntKind.wrap_u64]; omega
        have S := Lib.hid (And.intro hs (And.intro hrun hpr))
        clear hs hrun hpr
        go_wp2_with (fail)
        refine G.out.mono ?_
        rintro e w3 ⟨hb3, rfl, hcop⟩
        have T := Lib.hid (And.intro hb3 hcop)
        clear hb3 hcop
        by_cases hq2 : q2 = 0
        · subst hq2
          obtain ⟨P', np', cp', gs', c1, c2⟩ := T.out.2 rfl
          have hpo := pageR_ok HB.out.isB S.out.1.top (by rw [S.out.2.2])
          rw [S.out.2.2] at hpo
          simp only at hpo
          obtain ⟨p1, p2, p3, p4, p5, p6, p7⟩ := hpo
          have hcl : tot + cs.length = (allC gs').length := by
            rw [allC_len, c2, List.flatten_append, List.length_append, ← allC_len, more1_len, S.out.1.cnt]
          have hpg : pgsOf gs' = (acc ++ [cs]).flatMap more1 := by
            rw [c2, S.out.1.pgs, List.flatMap_append]; simp
          have hrn : pagesA b N x 0 [] true = pagesA b (N - (j + 1)) nx (tot + cs.length) (acc ++ [cs]) (right && ok) := by rw [S.out.2.1, if_pos rfl]
          have hgd : (right && ok) = true → ∀ l ∈ acc ++ [cs], 0 < l.length ∧ l.length ≤ 8 := by
            intro hh l hl
            rw [Bool.and_eq_true] at hh
            rcases List.mem_append.1 hl with hl | hl
            · exact S.out.1.good hh.1 l hl
            · rcases List.mem_singleton.1 hl with rfl
              rw [p7, Bool.and_eq_true] at hh
              exact ⟨of_decide_eq_true hh.2.1, of_decide_eq_true hh.2.2⟩
          have Y : RdR w w3 g b N x (j + 1) nx (tot + cs.length) (right && ok) (acc ++ [cs]) P' np' cp' gs' := ⟨T.out.1, c1, hrn, by omega, p4, hcl, p1, hpg, hgd⟩
          have Y := Lib.hid Y
          clear c1 c2 p1 p2 p3 p4 p5 p6 p7 hcl hpg hrn hgd
          cases right with
          | false =>
            go_wp2_with (fail)
            go_roundw
            case rel => exact ⟨j + 1, nx, tot + cs.length, _, acc ++ [cs], P', np', cp', gs', by omega, rfl, rfl, by go_num, Y.out⟩
            case measure => simp [intOf]; omega
          | true =>
            go_wp2_with (fail)
            go_roundw
            case rel => exact ⟨j + 1, nx, tot + cs.length, _, acc ++ [cs], P', np', cp', gs', by omega, rfl, rfl, by go_num, Y.out⟩
            case measure => simp [intOf]; omega
        · have e2 : (q2 != 0) = true := by simpa using hq2
          have hX := rd_err HR.out (S.out.2.1.trans (if_neg hq2)) hq2
          have B1 := Lib.hid (And.intro T.out.1 (And.intro hq2 hX))
          clear hq2 hX
          go_wp2_with (fail)
          go_ret2
          exact readEnd.err B1.out.1 B1.out.2.1 B1.out.2.2
      · obtain rfl : j = N := by omega
        have d1 : decide ((j : Int) < (j : Int)) = false := decide_eq_false (by omega)
        have hX : pagesA b j x 0 [] true = (acc, at2, right, 0) := hs.run.trans (by rw [Nat.sub_self]; rfl)
        have c1 := (row_cells hs.cop.row 1).1
        have c1 : wr.cell? ⟨g, 1, none⟩ = some (.slice P np cp) := c1
        have hat1 := hs.at1
        have hat0 := hs.at0
        obtain ⟨K, hK⟩ : ∃ K, ptsOf acc = K := ⟨_, rfl⟩
        have hKP : K = (cns (allC gs)).map Cn.p := by rw [← hK, ← pgsOf_flat, hs.pgs, more1_flat]; rfl
        have hHR := HR.out
        rw [hX] at hHR
        simp only [if_true] at hHR
        rw [hK] at hHR
        have hgl := hs.cop.np
        have hcap := Own.len_cap hs.cop.pages
        have hnp := hs.cop.np_le
        have htop := hs.top
        have hct := hs.cnt
        obtain ⟨w9, hw9⟩ : ∃ w9, w9 = wr := ⟨_, rfl⟩
        subst hw9
        have Z := Lib.hid (And.intro hs (And.intro hX (And.intro hKP (And.intro hHR (And.intro hK hgl)))))
        clear hs hX hKP hHR hK hgl HR
        go_wp2_with (fail)
        go_loopw [8, 12, 51] (fun r la i wr2 => ∃ (i2 : Nat), i2 ≤ np ∧ i = .int .i64 i2 ∧ r = .bool (right && riseB (K.take (allC (gs.take i2)).length)) ∧ LastIs wr2 la K (allC (gs.take i2)).length ∧ Below w9.heap.size w9 wr2) (fun _ _ i _ => np - (intOf i).toNat)
        case atStart => exact ⟨0, by omega, rfl, by simp [allC, riseB], .inl ⟨by simp [allC], rfl⟩, Below.refl _ _⟩
        case round =>
          obtain ⟨i2, hi2, rfl, rfl, hlast, hbel⟩ := hrel
          by_cases hlt2 : i2 < np
          · obtain ⟨ad, y, had, hy, hbk, hc⟩ : ∃ ad y, P = some ad ∧ gs[i2]? = some y ∧ ad.block < wr.heap.size ∧ wr.cell? (ad.add i2) = some (.slice y.A y.n y.c) := by
              obtain ⟨ad, e, h1, h2⟩ := (Z.out.1.cop.pages.below hbel).rd.one hlt2
              have hl : i2 < gs.length := by have := Z.out.2.2.2.2.2; omega
              refine ⟨ad, gs[i2], e, List.getElem?_eq_getElem hl, h1, ?_⟩
              rw [h2, List.getElem?_map, List.getElem?_eq_getElem hl]; rfl
            subst had
            have hyo := Z.out.1.cop.own y (List.mem_of_getElem? hy)
            have hyl := hyo.1.len
            have hca := Own.len_cap hyo.1.row
            obtain ⟨a2, _, hA, _⟩ := hyo.1.arg.at_ hyo.2.1
            rw [hA] at hc
            have HA := Lib.hid hA
            clear hA
            have hsplit := allC_split hy
            have hnx : (allC (gs.take (i2 + 1))).length = (allC (gs.take i2)).length + y.n := by rw [take_next hy, allC_app, List.length_append]; show _ + (y.hs ++ []).length = _; rw [List.append_nil, hyl]
            generalize hct : (allC (gs.take i2)).length = ct at *
            have hcl : ct ≤ 2000 := by have := congrArg List.length hsplit; simp only [List.length_append] at this; omega
            have hyn : y.n ≤ 1000000 := hyo.2.2
            have Y := Lib.hid (And.intro hy (And.intro hyo (And.intro hsplit (And.intro hbel (And.intro hnx hct)))))
            have hL0 := hlast
            clear hy hyo hsplit hbel hnx hct hlast
            obtain ⟨w8, hw8⟩ : ∃ w8, w8 = wr := ⟨_, rfl⟩
            subst hw8
            go_wp2_with (fail)
            go_loopw [8, 12, 57] (fun r la i wr2 => ∃ (k2 : Nat), k2 ≤ y.n ∧ i = .int .i64 k2 ∧ r = .bool (right && riseB (K.take (ct + k2))) ∧ LastIs wr2 la K (ct + k2) ∧ Below w8.heap.size w8 wr2) (fun _ _ i _ => y.n - (intOf i).toNat)
            case atStart => exact ⟨0, by omega, rfl, rfl, hL0, Below.refl _ _⟩
            case round =>
              clear hL0
              obtain ⟨k2, hk2, rfl, rfl, hlast, hbel⟩ := hrel
              by_cases hlt3 : k2 < y.n
              · obtain ⟨a3, m, hA3, hm, hok, hbk3, hcm⟩ := (Y.out.2.1.1.below (bThen Y.out.2.2.2.1 hbel)).arg.at_ hlt3
                obtain rfl : a2 = a3 := Option.some.inj (HA.out.symm.trans hA3)
                clear hA3
                have hKt : K[ct + k2]? = some m.c.p := by
                  have h1 : (allC (gs.take i2)).length = ct := Y.out.2.2.2.2.2
                  have h2 : k2 < y.hs.length := by rw [hyl]; exact hlt3
                  rw [Z.out.2.2.1, Y.out.2.2.1, List.getElem?_map]
                  unfold cns
                  rw [List.getElem?_map, List.getElem?_append_right (by omega), h1, Nat.add_sub_cancel_left, List.getElem?_append_left h2, hm]
                  rfl
                have hpc : ∀ j u, (pc m.c.p)[j]? = some u → wr.cell? ((a2.add (k2 * 37)).add j) = some u := fun j u hu => hcm j u (by
                  have := (List.getElem?_eq_some_iff.1 hu).1
                  unfold cc
                  rw [List.getElem?_append_left this]
                  exact hu)
                have i1 : (0 : Int) ≤ (k2 : Int) := by omega
                have i2' : (k2 : Int) < (y.n : Int) := by omega
                have hnew : ∀ w', Below wr.heap.size wr w' → LastIs w' (.pointer (some (a2.add (k2 * 37)))) K (ct + (k2 + 1)) := fun w' hb => .inr ⟨by omega, _, m.c.p, rfl, by rw [show ct + (k2 + 1) - 1 = ct + k2 by omega]; exact hKt, hok.c.p, by rw [block_add]; exact Nat.lt_of_lt_of_le hbk3 hb.size, fun j u hu => (World.cell?_of_block (by rw [block_add, block_add]; exact hb.block _ hbk3)).trans (hpc j u hu)⟩
                obtain ⟨rb, hrb⟩ : ∃ rb, (right && riseB (K.take (ct + k2))) = rb := ⟨_, rfl⟩
                rw [hrb]
                have V := Lib.hid (And.intro hlast (And.intro hbel (And.intro hKt (And.intro hpc (And.intro hnew (And.intro hrb hok))))))
                clear hbel hKt hpc hnew hrb hm hok hcm
                cases rb with
                | false =>
                  have hr2 : (right && riseB (K.take (ct + (k2 + 1)))) = false := by
                    have h := V.out.2.2.2.2.2.1
                    cases right with
                    | false => rfl
                    | true => rw [Bool.true_and] at h ⊢; exact riseB_less h
                  have R2 := Lib.hid hr2
                  clear hlast hr2
                  go_wp2_with (fail)
                  go_quiet (fail)
                  have hbn := Lib.hid (belN (Below.refl wr.heap.size wr) ‹Nat›)
                  go_wp2_with (fail)
                  go_roundw
                  case rel => exact ⟨k2 + 1, by omega, by go_num, by rw [R2.out], V.out.2.2.2.2.1 _ hbn.out, bThen V.out.2.1 hbn.out⟩
                  case measure => simp [intOf]; omega
                | true =>
                  have hrt : right = true := by have h := V.out.2.2.2.2.2.1; rw [Bool.and_eq_true] at h; exact h.1
                  have hrk : riseB (K.take (ct + k2)) = true := by have h := V.out.2.2.2.2.2.1; rw [Bool.and_eq_true] at h; exact h.2
                  rcases hlast with ⟨h0, rfl⟩ | ⟨h0, la, p, rfl, hp1, hp2, hp3, hp4⟩
                  · have hr2 : (right && riseB (K.take (ct + (k2 + 1)))) = true := by
                      have h1 : (K.take (ct + (k2 + 1))) = [m.c.p] := by
                        rw [show ct + (k2 + 1) = (ct + k2) + 1 by omega, take_next V.out.2.2.1, h0]; rfl
                      rw [hrt, h1]; rfl
                    have R2 := Lib.hid (And.intro hr2 h0)
                    clear hr2 h0 hrt hrk
                    go_wp2_with (fail)
                    go_quiet (fail)
                    have hbn := Lib.hid (belN (Below.refl wr.heap.size wr) ‹Nat›)
                    go_wp2_with (fail)
                    go_roundw
                    case rel => exact ⟨k2 + 1, by omega, by go_num, by rw [R2.out.1], V.out.2.2.2.2.1 _ hbn.out, bThen V.out.2.1 hbn.out⟩
                    case measure => simp [intOf]; omega
                  · obtain ⟨lb, hlb⟩ : ∃ lb, lessF p m.c.p = lb := ⟨_, rfl⟩
                    have hr2 : (right && riseB (K.take (ct + (k2 + 1)))) = lb := by
                      have h1 := riseB_take K (k := ct + k2 - 1) (a := p) (b := m.c.p) hp1 (by rw [show ct + k2 - 1 + 1 = ct + k2 by omega]; exact V.out.2.2.1)
                      rw [show ct + k2 - 1 + 2 = ct + (k2 + 1) by omega, show ct + k2 - 1 + 1 = ct + k2 by omega, hrk, Bool.true_and, hlb] at h1
                      rw [hrt, h1]; rfl
                    have hb2b : (a2.add (k2 * 37)).block < wr.heap.size := by rw [block_add]; exact hbk3
                    have hS1 : StLL la p (a2.add (k2 * 37)) m.c.p wr.drew := StLL.of (Below.refl _ _).drew hp2 hp3 hp4 V.out.2.2.2.2.2.2.c.p hb2b V.out.2.2.2.1
                    have R2 := Lib.hid (And.intro hr2 (And.intro hlb (And.intro hp2 (And.intro hp3 (And.intro hp4 hb2b)))))
                    clear hr2 h0 hrt hrk hlb hp1 hp2 hp3 hp4 hb2b
                    go_wp2_with (fail)
                    go_region_held3 (fun w' => StLL la p (a2.add (k2 * 37)) m.c.p w') (first | exact hS2 | exact hS1)
                      (first | (go_at_call 77; (with_reducible refine (less_is R2.out.2.2.1 V.out.2.2.2.2.2.2.c.p R2.out.2.1).mono ?_); rintro e w2 ⟨rfl, hb2⟩; have hS2 : StLL la p (a2.add (k2 * 37)) m.c.p w2 := StLL.of ((Below.refl _ _).drew.trans hb2) R2.out.2.2.1 R2.out.2.2.2.1 R2.out.2.2.2.2.1 V.out.2.2.2.2.2.2.c.p R2.out.2.2.2.2.2 V.out.2.2.2.1))
                    rename_i hHeldX
                    have hbn := Lib.hid ((Below.refl wr.heap.size wr).drew.trans hb2)
                    clear hHeldX hb2 hS1 hS2
                    go_wp2_with (fail)
                    go_roundw
                    case rel => exact ⟨k2 + 1, by omega, by go_num, by rw [R2.out.1], V.out.2.2.2.2.1 _ hbn.out, bThen V.out.2.1 hbn.out⟩
                    case measure => simp [intOf]; omega
              · obtain rfl : k2 = y.n := by omega
                have V := Lib.hid (And.intro hlast (bThen Y.out.2.2.2.1 hbel))
                clear hlast hbel
                go_wp2_with (fail)
                go_roundw
                case rel => exact ⟨i2 + 1, by omega, by go_num, by rw [Y.out.2.2.2.2.1], by rw [Y.out.2.2.2.2.1]; exact V.out.1, V.out.2⟩
                case measure => simp [intOf]; omega
          · obtain rfl : i2 = np := by omega
            have e1 : gs.take i2 = gs := List.take_of_length_le (by rw [Z.out.2.2.2.2.2]; exact Nat.le_refl _)
            have e2 : K.take (allC gs).length = K := List.take_of_length_le (by rw [Z.out.2.2.1, List.length_map, cns_length]; exact Nat.le_refl _)
            rw [e1, e2]
            have V := Lib.hid (bThen Z.out.1.bel hbel)
            have hHR := Z.out.2.2.2.1
            obtain ⟨rb, hrb⟩ : ∃ rb, (right && riseB K) = rb := ⟨_, rfl⟩
            rw [hrb] at hHR
            rw [hrb]
            have R := Lib.hid (And.intro hrb hHR)
            clear hlast e1 e2 hrb hHR
            cases rb with
            | false =>
              have hq : q = 5 := by
                have h := R.out.2
                rw [if_neg (by simp)] at h
                exact (Prod.mk.inj h).2.symm
              have Q := Lib.hid hq
              clear hq
              go_wp2_with (fail)
              go_ret2
              exact readEnd.err V.out (by decide) Q.out
            | true =>
              by_cases hend : at2 < (n : Int)
              · have d5 : decide (at2 < (n : Int)) = true := decide_eq_true hend
                have hq : q = 5 := by
                  have h := R.out.2
                  rw [if_neg (by rintro ⟨_, h2⟩; omega)] at h
                  exact (Prod.mk.inj h).2.symm
                have Q := Lib.hid hq
                clear hq
                go_wp2_with (fail)
                go_ret2
                exact readEnd.err V.out (by decide) Q.out
              · have d5 : decide (at2 < (n : Int)) = false := decide_eq_false hend
                have hq : ps = acc ∧ q = 0 := by
                  have h := R.out.2
                  rw [if_pos ⟨rfl, by omega⟩] at h
                  exact ⟨(Prod.mk.inj h).1.symm, (Prod.mk.inj h).2.symm⟩
                have Q := Lib.hid hq
                have hbel2 := Lib.hid hbel
                clear hq hbel
                go_wp2_with (fail)
                go_ret2
                have hrr := R.out.1
                rw [Bool.and_eq_true] at hrr
                have hgood := Z.out.1.good hrr.1
                have hpg := Z.out.1.pgs
                rw [more1_good fun l hl => (hgood l hl).1] at hpg
                refine ⟨V.out, .inr ⟨Q.out.2, g, P, i2, cp, gs, rfl, ?_, by rw [hpg, Q.out.1]⟩⟩
                have hc := Z.out.1.cop.below hbel2.out
                refine ⟨hg1, by rw [← hct]; exact hc.row, hc.pages, hc.own, ?_, by omega⟩
                rw [allP_eq, ← Z.out.2.2.1]
                exact riseB_of.1 hrr.2
  · have e1 : (q1 == 0) = false := by simpa using hq1
    have hr2 : q = q1 := by
      unfold readTF at hr
      rw [hgc, if_neg hq1] at hr
      exact (Prod.mk.inj hr).2.symm
    have H1 := Lib.hid (And.intro hq1 hr2)
    clear hr hgc hb hq1 hr2
    go_enter Try.func33, Try.ntmps33
    go_wp2_with (fail)
    refine C.out.mono ?_
    rintro e w1 ⟨rfl, hb1⟩
    go_wp2_with (fail)
    go_ret2
    exact readEnd.err hb1 H1.out.1 H1.out.2
end Go.Proofs.Ytofclanljhfkiaa
/- Plain: what the document's Put, Take and Get make of pages; a point that is found. -/
namespace Go.Proofs.Ytofclanljhfkiaa
open Go.RowKit Go.Proofs En Co
set_option linter.unusedVariables false
set_option linter.unusedSimpArgs false
set_option maxRecDepth 20000

def insF (l : List Cn) (c : Cn) : List Cn := l.takeWhile (fun x => lessF x.p c.p) ++ c :: l.dropWhile (fun x => lessF x.p c.p)
def keyF (l : List Cn) : Pt := (l.headD zeroCn).p
/-- the last page whose first point is not above a point: among the first k -/
def pageNk (ps : List (List Cn)) (p : Pt) (k : Nat) : Nat := (List.range k).foldl (fun n i => if lessF p (keyF (ps.getD i [])) = true then n else i) 0
def cutF (l : List Cn) : List (List Cn) := if 8 < l.length then [l.take 4, l.drop 4] else [l]
def putF2 (ps : List (List Cn)) (c : Cn) : List (List Cn) :=
  if ps.length = 0 then [[c]]
  else ps.take (pageNk ps c.p ps.length) ++ cutF (insF (ps.getD (pageNk ps c.p ps.length) []) c) ++ ps.drop (pageNk ps c.p ps.length + 1)
def findF (ps : List (List Cn)) (p : Pt) : Option Cn := ps.flatten.find? (fun c => decide (c.p = p))
/-- Put: the pages, an error -/
def putM (ps : List (List Cn)) (c : Cn) : List (List Cn) × Int :=
  if mayO c.v c.l = true then (if (findF ps c.p).isSome = true then (ps, 7) else if 2000 ≤ ps.flatten.length then (ps, 3) else (putF2 ps c, 0)) else (ps, 2)
def lostF (l : List Cn) (p : Pt) : List Cn := l.filter (fun c => decide (c.p ≠ p))
def takeF2 (ps : List (List Cn)) (p : Pt) : List (List Cn) := (ps.map (fun l => lostF l p)).filter (fun l => decide (0 < l.length))
/-- Take: the pages, a coin, an error -/
def takeM (ps : List (List Cn)) (p : Pt) : List (List Cn) × Cn × Int :=
  match findF ps p with
  | some c => (takeF2 ps p, c, 0)
  | none => (ps, zeroCn, 6)
def getM (ps : List (List Cn)) (p : Pt) : Cn × Int :=
  match findF ps p with
  | some c => (c, 0)
  | none => (zeroCn, 6)

theorem pageNk_next (ps : List (List Cn)) (p : Pt) (k : Nat) : pageNk ps p (k + 1) = if lessF p (keyF (ps.getD k [])) = true then pageNk ps p k else k := by
  unfold pageNk
  rw [List.range_succ, List.foldl_append]
  rfl
theorem pageNk_le (ps : List (List Cn)) (p : Pt) (k : Nat) : pageNk ps p k ≤ k := by
  induction k with
  | zero => exact Nat.le_refl _
  | succ k ih => rw [pageNk_next]; split <;> omega
theorem pageNk_lt (ps : List (List Cn)) (p : Pt) (k : Nat) (hk : 0 < k) : pageNk ps p k < k := by
  cases k with
  | zero => omega
  | succ k => rw [pageNk_next]; have := pageNk_le ps p k; split <;> omega

theorem key_keyF (x : Pg) : x.key = keyF (cns x.hs) := by
  unfold Pg.key keyF cns
  cases x.hs with
  | nil => rfl
  | cons m r => rfl
theorem pgsOf_at {gs : List Pg} {j : Nat} {x : Pg} (h : gs[j]? = some x) : (pgsOf gs).getD j [] = cns x.hs := pgsOf_get h
theorem Found.pageN {gs : List Pg} {p : Pt} {pg at_ : Nat} {is : Bool} (h : Found gs p pg at_ is) (hn : gs ≠ []) : pageNk (pgsOf gs) p (pgsOf gs).length = pg := by
  rcases h with ⟨h, _⟩ | ⟨x, hx, _, _, hb, ha, hk⟩
  · exact absurd h hn
  · have hpl := (List.getElem?_eq_some_iff.1 hx).1
    have key : ∀ k, k ≤ gs.length → pageNk (pgsOf gs) p k = if k ≤ pg then k - 1 else pg := by
      intro k
      induction k with
      | zero => intro _; simp [pageNk]
      | succ k ih =>
        intro hk1
        rw [pageNk_next, ih (by omega)]
        have hy : gs[k]? = some gs[k] := List.getElem?_eq_getElem (by omega)
        rw [pgsOf_at hy, ← key_keyF]
        rcases Nat.lt_trichotomy k pg with h1 | h1 | h1
        · rw [if_neg (by rw [lessF_asymm (hb k _ h1 hy)]; decide), if_pos (by omega)]; omega
        · subst h1
          obtain rfl : gs[k] = x := Option.some.inj (hy.symm.trans hx)
          rw [if_neg (show ¬ k + 1 ≤ k by omega), if_pos (Nat.le_refl _)]
          rcases Nat.eq_zero_or_pos k with h0 | h0
          · subst h0; split <;> rfl
          · rw [if_neg]
            rcases hk h0 with h2 | h2
            · rw [lessF_asymm h2]; decide
            · rw [h2, lessF_self]; decide
        · rw [if_pos (ha k _ h1 hy), if_neg (by omega), if_neg (by omega)]
    rw [pgsOf_length, key _ (Nat.le_refl _), if_neg (by omega)]
theorem takeWhile_at {l : List Cn} {p : Pt} : ∀ {i : Nat}, i ≤ l.length → (∀ k x, k < i → l[k]? = some x → lessF x.p p = true) → (∀ k x, i ≤ k → l[k]? = some x → lessF x.p p = false) →
    l.takeWhile (fun x => lessF x.p p) = l.take i ∧ l.dropWhile (fun x => lessF x.p p) = l.drop i := by
  induction l with
  | nil => intro i hi _ _; simp
  | cons a r ih =>
    intro i hi h1 h2
    cases i with
    | zero =>
      have h := h2 0 a (Nat.le_refl _) rfl
      rw [List.takeWhile_cons, List.dropWhile_cons, h]
      simp
    | succ i =>
      have h := h1 0 a (Nat.succ_pos _) rfl
      rw [List.takeWhile_cons, List.dropWhile_cons, h]
      have := ih (i := i) (by simpa using hi) (fun k x hk hx => h1 (k + 1) x (by omega) (by simpa using hx)) (fun k x hk hx => h2 (k + 1) x (by omega) (by simpa using hx))
      simp [this.1, this.2]
theorem Found.ins {gs : List Pg} {c : Cn} {pg at_ : Nat} {is : Bool} {x : Pg} (h : Found gs c.p pg at_ is) (hx : gs[pg]? = some x) : insF (cns x.hs) c = inP (cns x.hs) at_ c := by
  rcases h with ⟨h, _⟩ | ⟨x', hx', hs, _⟩
  · rw [h] at hx; simp at hx
  · obtain rfl : x' = x := Option.some.inj (hx'.symm.trans hx)
    have hl : ∀ (k : Nat) (a : Cn), (cns x'.hs)[k]? = some a → x'.pts[k]? = some a.p := by
      intro k a hk
      unfold Pg.pts
      rw [List.getElem?_map, hk]; rfl
    have := takeWhile_at (l := cns x'.hs) (p := c.p) (i := at_) (by have := hs.1; unfold Pg.pts at this; rwa [List.length_map] at this) (fun k a hk hka => hs.2.1 k _ hk (hl k a hka)) (fun k a hk hka => hs.2.2 k _ hk (hl k a hka))
    unfold insF inP
    rw [this.1, this.2]
theorem Found.putP {gs : List Pg} {c : Cn} {pg at_ : Nat} {is : Bool} (h : Found gs c.p pg at_ is) : putP (pgsOf gs) pg at_ c = putF2 (pgsOf gs) c := by
  by_cases hn : gs = []
  · subst hn; rfl
  · obtain ⟨x, hx, _⟩ := h.page hn
    have hpl := (List.getElem?_eq_some_iff.1 hx).1
    have hl : ¬ (pgsOf gs).length = 0 := by rw [pgsOf_length]; omega
    unfold Go.Proofs.Ytofclanljhfkiaa.putP putF2
    rw [if_neg hl, if_neg hl, h.pageN hn, pgsOf_get hx, h.ins hx]
    unfold cutF
    by_cases h8 : (inP (cns x.hs) at_ c).length ≤ 8
    · rw [if_pos h8, if_neg (by omega), List.set_eq_take_append_cons_drop, if_pos (by rw [pgsOf_length]; exact hpl), List.append_assoc]; rfl
    · rw [if_neg h8, if_pos (by omega)]

/-! ### a point is found just if it is there -/
theorem flat_pts (gs : List Pg) : (pgsOf gs).flatten.map Cn.p = allP gs := by rw [pgsOf_flat, ← allP_eq]
theorem rise_inj {l : List Cn} (h : Rise (l.map Cn.p)) {x y : Cn} (hx : x ∈ l) (hy : y ∈ l) (e : x.p = y.p) : x = y := by
  obtain ⟨i, hi, rfl⟩ := List.getElem_of_mem hx
  obtain ⟨j, hj, rfl⟩ := List.getElem_of_mem hy
  unfold Rise at h
  rw [List.pairwise_map] at h
  have hp := List.pairwise_iff_getElem.1 h
  rcases Nat.lt_trichotomy i j with h1 | h1 | h1
  · have := hp i j hi hj h1
    rw [e, lessF_self] at this; cases this
  · subst h1; rfl
  · have := hp j i hj hi h1
    rw [e, lessF_self] at this; cases this
theorem findF_of {ps : List (List Cn)} {p : Pt} {c : Cn} (h : Rise (ps.flatten.map Cn.p)) (hc : c ∈ ps.flatten) (hp : c.p = p) : findF ps p = some c := by
  unfold findF
  cases hf : ps.flatten.find? (fun c => decide (c.p = p)) with
  | none =>
    have := List.find?_eq_none.1 hf c hc
    simp [hp] at this
  | some d =>
    have h1 := List.find?_some hf
    have h2 := List.mem_of_find?_eq_some hf
    rw [rise_inj h h2 hc ((of_decide_eq_true h1).trans hp.symm)]
theorem findF_none {ps : List (List Cn)} {p : Pt} (h : ∀ c ∈ ps.flatten, c.p ≠ p) : findF ps p = none := by
  unfold findF
  rw [List.find?_eq_none]
  intro c hc
  simpa using h c hc
theorem findF_some {ps : List (List Cn)} {p : Pt} {c : Cn} (h : findF ps p = some c) : c ∈ ps.flatten ∧ c.p = p :=
  ⟨List.mem_of_find?_eq_some h, by simpa using List.find?_some h⟩
theorem Found.none {gs : List Pg} {p : Pt} {pg at_ : Nat} (h : Found gs p pg at_ false) (hr : Rise (allP gs)) (hn : ∀ y ∈ gs, 0 < y.hs.length) (hok : ∀ a ∈ allP gs, a.ok) (hp : p.ok) : findF (pgsOf gs) p = none := by
  refine findF_none fun c hc e => ?_
  by_cases hg : gs = []
  · subst hg; simp [pgsOf] at hc
  · obtain ⟨x, hx, _⟩ := h.page hg
    have hm : c.p ∈ allP gs := by rw [← flat_pts]; exact List.mem_map.2 ⟨c, hc, rfl⟩
    have e2 : allP gs = (allP (gs.take pg) ++ x.pts.take at_) ++ (x.pts.drop at_ ++ allP (gs.drop (pg + 1))) := by
      rw [allP_eq, allC_split hx, allP_eq, allP_eq]
      unfold Pg.pts cns
      simp only [List.map_append, List.append_assoc]
      rw [← List.append_assoc (List.take _ _), List.take_append_drop]
    have hb := h.before hr hx hn
    have ha := h.after hr hx hn hok hp
    rw [e2] at hm
    rcases List.mem_append.1 hm with hm | hm
    · have := hb _ hm
      rw [e, lessF_self] at this; cases this
    · have := ha _ hm
      rw [e, lessF_self] at this; cases this
theorem Found.some {gs : List Pg} {p : Pt} {pg at_ : Nat} {x : Pg} {m : Cm} (h : Found gs p pg at_ true) (hr : Rise (allP gs)) (hx : gs[pg]? = some x) (hm : x.hs[at_]? = some m) : findF (pgsOf gs) p = some m.c ∧ m.c.p = p := by
  obtain ⟨x', m', hx', hm', hp⟩ := h.at_
  obtain rfl : x' = x := Option.some.inj (hx'.symm.trans hx)
  obtain rfl : m' = m := Option.some.inj (hm'.symm.trans hm)
  refine ⟨findF_of (by rw [flat_pts]; exact hr) ?_ hp, hp⟩
  rw [pgsOf_flat]
  unfold cns
  exact List.mem_map.2 ⟨m', List.mem_flatMap.2 ⟨x', List.mem_of_getElem? hx, List.mem_of_getElem? hm⟩, rfl⟩

/-! ### a coin that goes -/
theorem lostF_id {l : List Cn} {p : Pt} (h : ∀ c ∈ l, c.p ≠ p) : lostF l p = l := by
  unfold lostF
  rw [List.filter_eq_self]
  intro c hc
  simpa using h c hc
theorem lostF_erase {p : Pt} : ∀ {l : List Cn} {i : Nat} {c : Cn}, Rise (l.map Cn.p) → l[i]? = some c → c.p = p → lostF l p = l.eraseIdx i
  | [], i, c, _, h, _ => by simp at h
  | a :: r, 0, c, hr, h, hc => by
    obtain rfl : a = c := by simpa using h
    have hr2 := List.pairwise_cons.1 (show Rise (a.p :: r.map Cn.p) from hr)
    unfold lostF
    rw [List.filter_cons, if_neg (by simp [hc]), List.eraseIdx_cons_zero]
    refine List.filter_eq_self.2 fun d hd => ?_
    have := hr2.1 d.p (List.mem_map.2 ⟨d, hd, rfl⟩)
    simp only [decide_eq_true_eq]
    intro e
    rw [e, ← hc, lessF_self] at this; cases this
  | a :: r, i + 1, c, hr, h, hc => by
    have hr2 := List.pairwise_cons.1 (show Rise (a.p :: r.map Cn.p) from hr)
    have h2 : r[i]? = some c := by simpa using h
    have ha : a.p ≠ p := by
      intro e
      have := hr2.1 c.p (List.mem_map.2 ⟨c, List.mem_of_getElem? h2, rfl⟩)
      rw [e, hc, lessF_self] at this; cases this
    have := lostF_erase (l := r) (i := i) (c := c) hr2.2 h2 hc
    unfold lostF at *
    rw [List.filter_cons, if_pos (by simp [ha]), this, List.eraseIdx_cons_succ]
theorem Found.takeP {gs : List Pg} {p : Pt} {pg at_ : Nat} (h : Found gs p pg at_ true) (hr : Rise (allP gs)) (hn : ∀ y ∈ gs, 0 < y.hs.length) : takeP (pgsOf gs) pg at_ = takeF2 (pgsOf gs) p := by
  obtain ⟨x, m, hx, hm, hp⟩ := h.at_
  have hpl := (List.getElem?_eq_some_iff.1 hx).1
  have hf := hr
  rw [allP_eq, allC_split hx] at hf
  have hsp : pgsOf gs = pgsOf (gs.take pg) ++ cns x.hs :: pgsOf (gs.drop (pg + 1)) := by
    conv => lhs; rw [split_at hx]
    unfold pgsOf
    rw [List.map_append, List.map_cons]
  -- no other page has the point
  have hpm : ∀ c, c ∈ cns (allC (gs.take pg)) ∨ c ∈ cns (allC (gs.drop (pg + 1))) → c.p ≠ p := by
    unfold Rise cns at hf
    simp only [List.map_append, List.pairwise_append] at hf
    obtain ⟨_, ⟨_, _, hA⟩, hB⟩ := hf
    have hpx : p ∈ List.map Cn.p (List.map Cm.c x.hs) := by
      rw [List.map_map]
      exact List.mem_map.2 ⟨m, List.mem_of_getElem? hm, hp⟩
    intro c hc e
    rcases hc with hc | hc
    · have := hB c.p (List.mem_map.2 ⟨c, hc, rfl⟩) p (List.mem_append_left _ hpx)
      rw [e, lessF_self] at this; cases this
    · have := hA p hpx c.p (List.mem_map.2 ⟨c, hc, rfl⟩)
      rw [e, lessF_self] at this; cases this
  have hside : ∀ hs : List Pg, (∀ y ∈ hs, y ∈ gs) → (∀ c ∈ cns (allC hs), c.p ≠ p) → takeF2 (pgsOf hs) p = pgsOf hs := by
    intro hs hin hne
    unfold takeF2
    have e1 : (pgsOf hs).map (fun l => lostF l p) = pgsOf hs := by
      conv => rhs; rw [← List.map_id (pgsOf hs)]
      refine List.map_congr_left fun l hl => ?_
      refine lostF_id fun c hc => hne c ?_
      rw [← pgsOf_flat]
      exact List.mem_flatten.2 ⟨l, hl, hc⟩
    rw [e1, List.filter_eq_self]
    intro l hl
    unfold pgsOf at hl
    obtain ⟨y, hy, rfl⟩ := List.mem_map.1 hl
    have := hn y (hin y hy)
    rw [cns_length]
    simpa using this
  have hl := hside (gs.take pg) (fun y hy => List.mem_of_mem_take hy) (fun c hc => hpm c (.inl hc))
  have hd := hside (gs.drop (pg + 1)) (fun y hy => List.mem_of_mem_drop hy) (fun c hc => hpm c (.inr hc))
  have hpg : lostF (cns x.hs) p = (cns x.hs).eraseIdx at_ := lostF_erase (c := m.c) (hr.page (List.mem_of_getElem? hx)) (by unfold cns; rw [List.getElem?_map, hm]; rfl) hp
  unfold Go.Proofs.Ytofclanljhfkiaa.takeP
  rw [pgsOf_get hx]
  conv => rhs; rw [hsp]
  unfold takeF2 at *
  rw [List.map_append, List.filter_append, hl, List.map_cons, List.filter_cons, hpg, hd]
  have hlt : (pgsOf (gs.take pg)).length = pg := by rw [pgsOf_length, List.length_take]; omega
  by_cases h0 : ((cns x.hs).eraseIdx at_).length = 0
  · rw [if_pos h0, if_neg (by simp [h0]), List.eraseIdx_eq_take_drop_succ]
    unfold pgsOf
    rw [List.map_take, List.map_drop]
  · rw [if_neg h0, if_pos (by simp; omega), List.set_eq_take_append_cons_drop, if_pos (by rw [pgsOf_length]; exact hpl)]
    unfold pgsOf
    rw [List.map_take, List.map_drop]
end Go.Proofs.Ytofclanljhfkiaa
/- A table by its pages: each function's contract in plain words. -/
namespace Go.Proofs.Ytofclanljhfkiaa
open Go.RowKit Go.Proofs En Co
set_option linter.unusedVariables false
set_option linter.unusedSimpArgs false
set_option maxRecDepth 20000

/-- a table in memory whose pages are ps -/
def Tb (w : World) (base g : Nat) (P : Option Addr) (ps : List (List Cn)) : Prop := ∃ (np cp : Nat) (gs : List Pg), Tab w base g P np cp gs ∧ pgsOf gs = ps
abbrev ptr (g : Nat) : Value := .pointer (some ⟨g, 0, none⟩)
/-- the row of pages is the elder one, or a new one -/
def Kept (w : World) (P P' : Option Addr) : Prop := P' = P ∨ ∀ k, blk P' = some k → w.heap.size ≤ k
section
variable {w w' : World} {base g : Nat} {P : Option Addr} {ps : List (List Cn)}
theorem Tb.below (h : Tb w base g P ps) (hb : Below w.heap.size w w') : Tb w' base g P ps := by
  obtain ⟨np, cp, gs, h, e⟩ := h
  exact ⟨np, cp, gs, h.below hb, e⟩
theorem Tb.mono {base' : Nat} (h : Tb w base g P ps) (hb : base' ≤ base) : Tb w base' g P ps := by
  obtain ⟨np, cp, gs, h, e⟩ := h
  exact ⟨np, cp, gs, h.mono hb, e⟩
theorem Tb.new (w : World) : Tb (w.alloc (.cells #[.bool true, .slice none 0 0, .int .i64 0] 29)) w.heap.size w.heap.size none [] := ⟨0, 0, [], Tab.new w, rfl⟩
theorem Tb.kinds (h : Tb w base g P ps) : Kinds w g P := by
  obtain ⟨np, cp, gs, h, e⟩ := h
  exact h.kinds
theorem Tb.low (h : Tb w base g P ps) : base ≤ g ∧ g < w.heap.size := by
  obtain ⟨np, cp, gs, h, e⟩ := h
  exact ⟨h.low, (Array.getElem?_eq_some_iff.1 h.row).1⟩
theorem Tb.plow (h : Tb w base g P ps) : ∀ k, blk P = some k → base ≤ k ∧ k < w.heap.size := by
  obtain ⟨np, cp, gs, h, e⟩ := h
  exact Own.lt h.pages
theorem Tb.gP (h : Tb w base g P ps) : blk P ≠ some g := by
  obtain ⟨np, cp, gs, h, e⟩ := h
  exact Own.ne_block h.pages h.row (by decide)
/-- another table behind a change to one -/
theorem Tb.only {g2 : Nat} {P2 : Option Addr} {qs : List (List Cn)} (h : Tb w base g2 P2 qs) (ho : Only w w' g P) (hk : Kinds w g P) (hg : g2 ≠ g) (hP : ∀ k, blk P = some k → blk P2 ≠ some k) : Tb w' base g2 P2 qs := by
  obtain ⟨np, cp, gs, h, e⟩ := h
  exact ⟨np, cp, gs, h.only ho hk hg hP, e⟩
theorem Tb.rise (h : Tb w base g P ps) : Rise (ps.flatten.map Cn.p) := by
  obtain ⟨np, cp, gs, h, rfl⟩ := h
  rw [flat_pts]; exact h.up
theorem Tb.pos (h : Tb w base g P ps) : ∀ l ∈ ps, 0 < l.length := by
  obtain ⟨np, cp, gs, h, rfl⟩ := h
  intro l hl
  obtain ⟨y, hy, rfl⟩ := List.mem_map.1 hl
  rw [cns_length]
  exact h.pos y hy
theorem Tb.ok (h : Tb w base g P ps) : ∀ c ∈ ps.flatten, c.ok := by
  obtain ⟨np, cp, gs, h, rfl⟩ := h
  intro c hc
  rw [pgsOf_flat] at hc
  obtain ⟨m, hm, rfl⟩ := List.mem_map.1 hc
  exact (h.coins m hm).c
theorem Tb.most (h : Tb w base g P ps) : ps.flatten.length ≤ 2000 := by
  obtain ⟨np, cp, gs, h, rfl⟩ := h
  rw [← allC_len]; exact h.most
theorem Tb.many (h : Tb w base g P ps) : ps.length ≤ 2000 := by
  obtain ⟨np, cp, gs, h, rfl⟩ := h
  rw [pgsOf_length, h.len]; exact h.np_le
theorem Tb.row (h : Tb w base g P ps) : ∃ np cp, w.heap[g]? = some (.cells #[.bool true, .slice P np cp, .int .i64 ps.flatten.length] 29 (0, 0)) := by
  obtain ⟨np, cp, gs, h, rfl⟩ := h
  exact ⟨np, cp, by rw [← allC_len]; exact h.row⟩
end

set_option maxHeartbeats 1000000 in
theorem put_m {w : World} {base g : Nat} {P : Option Addr} {ps : List (List Cn)} (h : Tb w base g P ps) (m : Cm) (hm : m.ok w) (hag : 0 < m.c.l.length → blk m.A ≠ some g) :
    Calls Try.prog 27 #[ptr g, .agg (cc m).toArray] w fun e w' => e = .returned (.int .i64 (putM ps m.c).2) ∧ ∃ P', Tb w' base g P' (putM ps m.c).1 ∧ Kept w P P' ∧ Only w w' g P := by
  obtain ⟨np, cp, gs, h, rfl⟩ := h
  refine (putT_any h m hm hag).mono ?_
  rintro e w' (⟨h1, rfl, hb⟩ | ⟨h1, pg, at_, is, hf, ⟨rfl, rfl, hb⟩ | ⟨rfl, hl, rfl, hb⟩ | ⟨rfl, hl, rfl, P', np', cp', gs', hp, hT, hk, ho, _⟩⟩)
  · have e : putM (pgsOf gs) m.c = (pgsOf gs, 2) := by unfold putM; rw [if_neg (by rw [h1]; decide)]
    rw [e]
    exact ⟨rfl, P, ⟨np, cp, gs, h.below hb, rfl⟩, .inl rfl, Only.of hb⟩
  · obtain ⟨x, m2, hx, hm2, _⟩ := hf.at_
    have hs := (hf.some h.up hx hm2).1
    have e : putM (pgsOf gs) m.c = (pgsOf gs, 7) := by unfold putM; rw [if_pos h1, if_pos (by rw [hs]; rfl)]
    rw [e]
    exact ⟨rfl, P, ⟨np, cp, gs, h.below hb, rfl⟩, .inl rfl, Only.of hb⟩
  · have hs := hf.none h.up h.pos h.ptok hm.c.p
    have e : putM (pgsOf gs) m.c = (pgsOf gs, 3) := by unfold putM; rw [if_pos h1, if_neg (by rw [hs]; decide), if_pos (by rw [← allC_len]; exact hl)]
    rw [e]
    exact ⟨rfl, P, ⟨np, cp, gs, h.below hb, rfl⟩, .inl rfl, Only.of hb⟩
  · have hs := hf.none h.up h.pos h.ptok hm.c.p
    have e : putM (pgsOf gs) m.c = (putF2 (pgsOf gs) m.c, 0) := by unfold putM; rw [if_pos h1, if_neg (by rw [hs]; decide), if_neg (by rw [← allC_len]; omega)]
    rw [e]
    exact ⟨rfl, P', ⟨np', cp', gs', hT, hp.trans hf.putP⟩, hk, ho⟩
set_option maxHeartbeats 1000000 in
theorem take_m {w : World} {base g : Nat} {P : Option Addr} {ps : List (List Cn)} (h : Tb w base g P ps) (p : Pt) (hp : p.ok) :
    Calls Try.prog 30 #[ptr g, .agg (pc p).toArray] w fun e w' => ∃ A k, e = .returned (.tuple #[.agg (cc ⟨(takeM ps p).2.1, A, k⟩).toArray, .int .i64 (takeM ps p).2.2]) ∧ OwnB w' base A (takeM ps p).2.1.l.length k (takeM ps p).2.1.l ∧ ∃ P', Tb w' base g P' (takeM ps p).1 ∧ Kept w P P' ∧ Only w w' g P := by
  obtain ⟨np, cp, gs, h, rfl⟩ := h
  refine (takeT_any h p hp).mono ?_
  rintro e w' ⟨pg, at_, is, hf, ⟨rfl, rfl, hb⟩ | ⟨rfl, x, m, P', np', cp', gs', hx, hm, rfl, hg, hT, hk, hl, ho⟩⟩
  · have hs := hf.none h.up h.pos h.ptok hp
    have e : takeM (pgsOf gs) p = (pgsOf gs, zeroCn, 6) := by unfold takeM; rw [hs]
    rw [e]
    exact ⟨none, 0, rfl, OwnN.nil _ _ _ _, P, ⟨np, cp, gs, h.below hb, rfl⟩, .inl rfl, Only.of hb⟩
  · have hs := (hf.some h.up hx hm).1
    have e : takeM (pgsOf gs) p = (takeF2 (pgsOf gs) p, m.c, 0) := by unfold takeM; rw [hs]
    rw [e]
    exact ⟨m.A, m.k, rfl, hl, P', ⟨np', cp', gs', hT, hg.trans (hf.takeP h.up h.pos)⟩, hk, ho⟩
set_option maxHeartbeats 1000000 in
theorem get_m {w : World} {base g : Nat} {P : Option Addr} {ps : List (List Cn)} (h : Tb w base g P ps) (p : Pt) (hp : p.ok) :
    Calls Try.prog 41 #[ptr g, .agg (pc p).toArray] w fun e w' => ∃ A k, e = .returned (.tuple #[.agg (cc ⟨(getM ps p).1, A, k⟩).toArray, .int .i64 (getM ps p).2]) ∧ OwnB w' w.heap.size A (getM ps p).1.l.length k (getM ps p).1.l ∧ Below w.heap.size w w' := by
  obtain ⟨np, cp, gs, h, rfl⟩ := h
  refine (getT_any h p hp).mono ?_
  rintro e w' ⟨pg, at_, is, hf, ⟨rfl, rfl⟩ | ⟨rfl, x, m, A, k, hx, hm, rfl, hl⟩, hb⟩
  · have hs := hf.none h.up h.pos h.ptok hp
    have e : getM (pgsOf gs) p = (zeroCn, 6) := by unfold getM; rw [hs]
    rw [e]
    exact ⟨none, 0, rfl, OwnN.nil _ _ _ _, hb⟩
  · have hs := (hf.some h.up hx hm).1
    have e : getM (pgsOf gs) p = (m.c, 0) := by unfold getM; rw [hs]
    rw [e]
    exact ⟨A, k, rfl, hl, hb⟩
theorem len_m {w : World} {base g : Nat} {P : Option Addr} {ps : List (List Cn)} (h : Tb w base g P ps) :
    Calls Try.prog 31 #[ptr g] w fun e w' => e = .returned (.int .i64 ps.flatten.length) ∧ w' = w := by
  obtain ⟨np, cp, gs, h, rfl⟩ := h
  have := len_any h
  rw [allC_len] at this
  exact this
theorem all_m {w : World} {base g : Nat} {P : Option Addr} {ps : List (List Cn)} (h : Tb w base g P ps) :
    Calls Try.prog 19 #[ptr g] w fun e w' => ∃ A d hs, e = .returned (.slice A ps.flatten.length d) ∧ cns hs = ps.flatten ∧ OwnP w' w.heap.size A ps.flatten.length d hs ∧ Below w.heap.size w w' := by
  obtain ⟨np, cp, gs, h, rfl⟩ := h
  have := allT_any h
  rw [allC_len] at this
  refine this.mono ?_
  rintro e w' ⟨A, d, hs, rfl, h1, h2, h3⟩
  exact ⟨A, d, hs, rfl, by rw [h1, pgsOf_flat], h2, h3⟩
theorem sum_m {w : World} {base g : Nat} {P : Option Addr} {ps : List (List Cn)} (h : Tb w base g P ps) :
    Calls Try.prog 32 #[ptr g] w fun e w' => e = .returned (.int .u64 (worthF ps.flatten)) ∧ Below w.heap.size w w' := by
  obtain ⟨np, cp, gs, h, rfl⟩ := h
  have := sumT_any h
  rw [← pgsOf_flat] at this
  exact this
theorem copy_m {w : World} {base g : Nat} {P : Option Addr} {ps : List (List Cn)} (h : Tb w base g P ps) :
    Calls Try.prog 43 #[ptr g] w fun e w' => ∃ g' P', e = .returned (ptr g') ∧ Tb w' w.heap.size g' P' ps ∧ Below w.heap.size w w' := by
  obtain ⟨np, cp, gs, h, rfl⟩ := h
  refine (copyT_any h).mono ?_
  rintro e w' ⟨g', P', cp', gs', rfl, e2, hT, hb⟩
  exact ⟨g', P', rfl, ⟨np, cp', gs', hT, e2⟩, hb⟩
/-- Page: the coins of a page, or an error -/
def pageM (ps : List (List Cn)) (n : Int) : List Cn × Int := if 0 ≤ n ∧ n < ps.length then (ps.getD n.toNat [], 0) else ([], 6)
theorem page_m {w : World} {base g : Nat} {P : Option Addr} {ps : List (List Cn)} (h : Tb w base g P ps) (n : Int) (hn : -9223372036854775808 ≤ n ∧ n ≤ 9223372036854775807) :
    Calls Try.prog 34 #[ptr g, .int .i64 n] w fun e w' => ∃ A d hs, e = .returned (.tuple #[.slice A (pageM ps n).1.length d, .int .i64 (pageM ps n).2]) ∧ cns hs = (pageM ps n).1 ∧ OwnP w' w.heap.size A (pageM ps n).1.length d hs ∧ Below w.heap.size w w' := by
  obtain ⟨np, cp, gs, h, rfl⟩ := h
  refine (pageT_any h n hn).mono ?_
  rintro e w' ⟨⟨h1, rfl⟩ | ⟨k, x, A, d, hs, rfl, hx, rfl, h2, h3⟩, hb⟩
  · have e : pageM (pgsOf gs) n = ([], 6) := by unfold pageM; rw [if_neg (by rw [pgsOf_length, h.len]; exact h1)]
    rw [e]
    exact ⟨none, 0, [], rfl, rfl, OwnP.nil _ _, hb⟩
  · have hl := (List.getElem?_eq_some_iff.1 hx).1
    have e : pageM (pgsOf gs) k = (cns x.hs, 0) := by
      unfold pageM
      rw [if_pos (by rw [pgsOf_length]; omega), Int.toNat_natCast, pgsOf_get hx]
    have hxl : (cns x.hs).length = x.n := by rw [cns_length, (h.own x (List.mem_of_getElem? hx)).1.len]
    rw [e]
    simp only [hxl]
    exact ⟨A, d, hs, rfl, h2, h3, hb⟩
theorem bytes_m {w : World} {base g : Nat} {P : Option Addr} {ps : List (List Cn)} (h : Tb w base g P ps) :
    Calls Try.prog 20 #[ptr g] w fun e w' => ∃ A k, e = .returned (.slice A (tableF ps).length k) ∧ OwnB w' w.heap.size A (tableF ps).length k (tableF ps) ∧ Below w.heap.size w w' := by
  obtain ⟨np, cp, gs, h, rfl⟩ := h
  exact bytesT_any h
theorem read_m {w : World} {A : Option Addr} {n c : Nat} {b : List Int} {ps : List (List Cn)} {q : Int} (hb : Arg w A n c b) (hr : readTF b = (ps, q)) :
    Calls Try.prog 33 #[.slice A n c] w fun e w' => Below w.heap.size w w' ∧ ((q ≠ 0 ∧ e = .returned (.tuple #[.pointer none, .int .i64 q])) ∨ (q = 0 ∧ ∃ g P, e = .returned (.tuple #[ptr g, .int .i64 0]) ∧ Tb w' w.heap.size g P ps)) := by
  refine (readT_any hb hr).mono ?_
  rintro e w' ⟨h1, h2 | ⟨h2, g, P, np, cp, gs, h3, h4, h5⟩⟩
  · exact ⟨h1, .inl h2⟩
  · exact ⟨h1, .inr ⟨h2, g, P, h3, np, cp, gs, h4, h5⟩⟩
theorem new_m (w : World) : Calls Try.prog 26 #[] w fun e w' => e = .returned (ptr w.heap.size) ∧ Tb w' w.heap.size w.heap.size none [] ∧ Below w.heap.size w w' := by
  refine (new_any w).mono ?_
  rintro e w' ⟨rfl, rfl⟩
  exact ⟨rfl, Tb.new w, (Below.refl _ _).alloc (Nat.le_refl _) _⟩
end Go.Proofs.Ytofclanljhfkiaa
/- The tables that the document tells: works of law 24. -/
namespace Go.Proofs.Ytofclanljhfkiaa
open Go.RowKit Go.Proofs En Co
set_option linter.unusedVariables false
set_option linter.unusedSimpArgs false
set_option maxRecDepth 20000
attribute [local go_sem ↓] ld_point_eq ld_coin_eq ld_hash_eq st_point_eq st_coin_eq bd_point_eq bd_coin_eq eq_point_eq ne_point_eq al_coin_eq al_point_eq bs_coin_eq
attribute [local go_sem] ld_point_run ld_coin_run ld_hash_run st_point_run st_coin_run bd_point_zero bd_coin_zero bd_point_of bd_coin_of hash_at rowIs_34 rowIs_37 rowIs_both hasAt_both cellsAt_both eq_point_run ne_point_run guard_pt al_coin_run al_point_run al_coin_row al_point_row nil_bytes nil_coins bs_coin_run bd_coin_v

theorem Tb.frame {w w' : World} {base g : Nat} {P : Option Addr} {ps : List (List Cn)} (h : Tb w base g P ps) (ho : Only w w' g P) : Below base w w' :=
  ho.below (Nat.le_of_lt (Nat.lt_of_le_of_lt h.low.1 h.low.2)) h.low.1 (fun k hk => (h.plow k hk).1)
theorem Kept.ne {w : World} {P P' : Option Addr} (h : Kept w P P') {k : Nat} (hk : k < w.heap.size) (hP : blk P ≠ some k) : blk P' ≠ some k := by
  rcases h with rfl | h
  · exact hP
  · intro e
    have := h k e
    omega

/-- what stands while a table is tried: the table, a coin's box, bytes -/
structure W24 (w wr : World) (g : Nat) (P : Option Addr) (ps : List (List Cn)) (b : Nat) (m : Cm) (A : Option Addr) (k : Nat) (xs : List Int) : Prop where
  bel : Below w.heap.size w wr
  tb : Tb wr w.heap.size g P ps
  box : wr.heap[b]? = some (.cells (cc m).toArray 57 (0, 0))
  own : OwnB wr w.heap.size A xs.length k xs
  b1 : w.heap.size ≤ b
  ne : blk P ≠ some b
theorem W24.below {w wr w2 : World} {g : Nat} {P : Option Addr} {ps : List (List Cn)} {b : Nat} {m : Cm} {A : Option Addr} {k : Nat} {xs : List Int} (h : W24 w wr g P ps b m A k xs) (hb : Below wr.heap.size wr w2) : W24 w w2 g P ps b m A k xs :=
  ⟨bThen h.bel hb, h.tb.below hb, kept h.box hb, OwnN.below h.own hb, h.b1, h.ne⟩
theorem W24.bg {w wr : World} {g : Nat} {P : Option Addr} {ps : List (List Cn)} {b : Nat} {m : Cm} {A : Option Addr} {k : Nat} {xs : List Int} (h : W24 w wr g P ps b m A k xs) : b ≠ g := by
  obtain ⟨np, cp, hr⟩ := h.tb.row
  rintro rfl
  rw [h.box] at hr
  injection hr with hr
  injection hr with _ hr
  exact absurd hr (by decide)
theorem W24.only {w wr w2 : World} {g : Nat} {P P' : Option Addr} {ps qs : List (List Cn)} {b : Nat} {m : Cm} {A : Option Addr} {k : Nat} {xs : List Int} (h : W24 w wr g P ps b m A k xs) (ho : Only wr w2 g P) (ht : Tb w2 w.heap.size g P' qs) (hk : Kept wr P P') : W24 w w2 g P' qs b m A k xs :=
  ⟨h.bel.trans (h.tb.frame ho), ht, ho.heap h.box h.bg h.ne, Own.only h.own ho h.tb.kinds (by decide) (by decide), h.b1, hk.ne (Array.getElem?_eq_some_iff.1 h.box).1 h.ne⟩
theorem W24.has {w wr : World} {g : Nat} {P : Option Addr} {ps : List (List Cn)} {b : Nat} {m : Cm} {A : Option Addr} {k : Nat} {xs : List Int} (h : W24 w wr g P ps b m A k xs) (hp : m.c.p.ok) : (hasAt wr b 0 37 ∧ cellsAt wr b 0 37 = (cc m).toArray) ∧ (hasAt wr b 0 34 ∧ cellsAt wr b 0 34 = (pc m.c.p).toArray) := coin_has hp h.box

abbrev StC3 (b : Nat) (m : Cm) (w' : World) : Prop := hasAt w' b 0 37 ∧ cellsAt w' b 0 37 = (cc m).toArray
theorem w24_put1 : putM [] (cnV 1) = ([[cnV 1]], 0) := by decide
theorem w24_put2 : putM [[cnV 1]] (cnV 1) = ([[cnV 1]], 7) := by decide
theorem w24_take1 : takeM [[cnV 1]] zeroPt = ([], cnV 1, 0) := by decide
theorem w24_take2 : takeM [] zeroPt = ([], zeroCn, 6) := by decide
theorem w24_read : readTF [1, 0] = ([], 5) := by decide
theorem w24_bytes : tableF [] = [0] := by decide

set_option maxRecDepth 20000 in
set_option maxHeartbeats 2000000 in
theorem works24_any (w : World) :
    Calls Try.prog 29 #[] w fun e w' => e = .returned (.bool true) ∧ Below w.heap.size w w' := by
  have hokm := cc_ok (m := ⟨cnV 1, none, 0⟩) zeroPt_ok
  go_enter Try.func29, Try.ntmps29
  go_wp2_with (fail)
  refine (new_m w).mono ?_
  rintro e w1 ⟨rfl, hT1, hb1⟩
  have BY := bytes_m hT1
  rw [w24_bytes] at BY
  go_wp2_with (fail)
  refine BY.mono ?_
  rintro e w2 ⟨A2, k2, rfl, ho2, hb2⟩
  have sl := slot_self w2 (.cells (cc zm).toArray 57) (cc ⟨cnV 1, none, 0⟩).toArray
  have s3 : W24 w ((w2.alloc (.cells (cc zm).toArray 57)).setRow w2.heap.size (cc ⟨cnV 1, none, 0⟩).toArray) w.heap.size none [] w2.heap.size ⟨cnV 1, none, 0⟩ A2 k2 [0] :=
    ⟨bThen (bThen hb1 hb2) sl, (hT1.below hb2).below sl, both_row w2 _ _ _, OwnN.below (OwnN.mono ho2 hb1.size) sl, Nat.le_trans hb1.size hb2.size, fun e => by cases e⟩
  have s3d := s3.below (Below.refl _ _).drew
  have hS0 : StC3 w2.heap.size ⟨cnV 1, none, 0⟩ ((w2.alloc (.cells (cc zm).toArray 57)).setRow w2.heap.size (cc ⟨cnV 1, none, 0⟩).toArray).drew := (s3d.has zeroPt_ok).1
  have PU1 := put_m s3d.tb ⟨cnV 1, none, 0⟩ (cnV_ok _ 1 (by omega)) (fun _ e => by cases e)
  rw [show (⟨cnV 1, none, 0⟩ : Cm).c = cnV 1 from rfl, w24_put1] at PU1
  have PU2 := fun (w' : World) (P' : Option Addr) (h : W24 w w' w.heap.size P' [[cnV 1]] w2.heap.size ⟨cnV 1, none, 0⟩ A2 k2 [0]) => put_m h.tb ⟨cnV 1, none, 0⟩ (cnV_ok w' 1 (by omega)) (fun _ e => by cases e)
  rw [show (⟨cnV 1, none, 0⟩ : Cm).c = cnV 1 from rfl, w24_put2] at PU2
  have PU := Lib.hid (And.intro PU1 (And.intro PU2 s3d))
  clear PU1 PU2 s3 s3d sl ho2 hb2 hT1 hb1 BY
  go_wp2_with (fail)
  go_region_held3 (fun w' => StC3 w2.heap.size ⟨cnV 1, none, 0⟩ w') (first | exact hS2 | exact hS1 | exact hS0)
    (first
      | (go_at_call 27; (with_reducible refine (PU.out.1).mono ?_); rintro e w4 ⟨rfl, P4, hT4, hk4, ho4⟩; have s4 := PU.out.2.2.only ho4 hT4 hk4; have hS1 : StC3 w2.heap.size ⟨cnV 1, none, 0⟩ w4 := (s4.has zeroPt_ok).1)
      | (go_at_call 27; (with_reducible refine (PU.out.2.1 _ _ s4).mono ?_); rintro e w5 ⟨rfl, P5, hT5, hk5, ho5⟩; have s5 := s4.only ho5 hT5 hk5; have hS2 : StC3 w2.heap.size ⟨cnV 1, none, 0⟩ w5 := (s5.has zeroPt_ok).1))
  rename_i hHeldX
  have TK1 := take_m s5.tb zeroPt zeroPt_ok
  rw [w24_take1] at TK1
  obtain ⟨u5, v5⟩ := (s5.has zeroPt_ok).2
  have S5 := Lib.hid s5
  clear hHeldX hS0 hS1 hS2 s4 s5 hT4 hT5 hk4 hk5 ho4 ho5 PU
  go_wp2_with (fail)
  refine TK1.mono ?_
  rintro e w6 ⟨A6, k6, rfl, ho6, P6, hT6, hk6, hon6⟩
  have s6 := S5.out.only hon6 hT6 hk6
  have hok6 := cc_ok (m := ⟨cnV 1, A6, k6⟩) zeroPt_ok
  have hm6 : ∀ w', Cm.ok w' ⟨cnV 1, A6, k6⟩ := fun w' => ⟨(cnV_ok w' 1 (by omega)).c, RdN.nil _ _ _, IsB.nil, Nat.zero_le _, (Own.len_cap ho6).2, Nat.zero_le _⟩
  have sl6 := slot_self w6 (.cells (cc zm).toArray 57) (cc ⟨cnV 1, A6, k6⟩).toArray
  have s7 := s6.below sl6
  have x7 := both_row w6 (cc zm).toArray 57 (cc ⟨cnV 1, A6, k6⟩).toArray
  have hP6 := hT6.plow
  have hg6 := hT6.low.2
  obtain ⟨u7, v7⟩ := (s7.has zeroPt_ok).2
  have TK2 := take_m s7.tb zeroPt zeroPt_ok
  rw [w24_take2] at TK2
  have S7 := Lib.hid (And.intro s7 x7)
  clear s6 s7 x7 sl6 hT6 hk6 hon6 ho6 u5 v5 TK1
  go_wp2_with (fail)
  refine TK2.mono ?_
  rintro e w8 ⟨A8, k8, rfl, ho8, P8, hT8, hk8, hon8⟩
  have s8 := S7.out.1.only hon8 hT8 hk8
  have x8 := hon8.heap S7.out.2 (by omega) (fun e => by have := (hP6 _ e).2; omega)
  have hok8 := cc_ok (m := ⟨zeroCn, A8, k8⟩) zeroPt_ok
  have sl8 := slot_self w8 (.cells (cc zm).toArray 57) (cc ⟨zeroCn, A8, k8⟩).toArray
  have s9 := s8.below sl8
  have x9 := kept x8 sl8
  have la9 : Below ((w8.alloc (.cells (cc zm).toArray 57)).setRow w8.heap.size (cc ⟨zeroCn, A8, k8⟩).toArray).heap.size ((w8.alloc (.cells (cc zm).toArray 57)).setRow w8.heap.size (cc ⟨zeroCn, A8, k8⟩).toArray) (((w8.alloc (.cells (cc zm).toArray 57)).setRow w8.heap.size (cc ⟨zeroCn, A8, k8⟩).toArray).alloc (.cells (ns .u8 [1, 0]).toArray 5)) := (Below.refl _ _).alloc (Nat.le_refl _) _
  have s10 := s9.below la9
  have x10 := kept x9 la9
  have hsz9 : ((w8.alloc (.cells (cc zm).toArray 57)).setRow w8.heap.size (cc ⟨zeroCn, A8, k8⟩).toArray).heap.size = w8.heap.size + 1 := by simp
  have al9 := arg_lit ((w8.alloc (.cells (cc zm).toArray 57)).setRow w8.heap.size (cc ⟨zeroCn, A8, k8⟩).toArray) [1, 0] 2 (by omega) rfl (isB_dec (by decide))
  rw [hsz9] at al9
  have RD := Lib.hid (read_m al9 w24_read)
  have S10 := Lib.hid (And.intro s10 x10)
  clear s8 s9 s10 x8 x9 x10 sl8 la9 al9 hT8 hk8 hon8 ho8 u7 v7 TK2
  go_wp2_with (fail)
  refine RD.out.mono ?_
  rintro e w11 ⟨hb11, ⟨_, rfl⟩ | ⟨h5, _⟩⟩
  · have s11 := S10.out.1.below hb11
    have x11 := kept S10.out.2 hb11
    have l12 : Below w11.heap.size w11 (w11.alloc (.cells (ns .u8 [0]).toArray 5)) := (Below.refl _ _).alloc (Nat.le_refl _) _
    have SM := Lib.hid (same_is (n := 1) (c := k2) (m := 1) (d := 1) (r := true) (OwnN.below s11.own l12).rd (rd_lit w11 [0] 1 (by omega) rfl) (by omega) (by decide))
    have S12 := Lib.hid (And.intro (s11.below l12) (kept x11 l12))
    clear s11 x11 l12 hb11
    go_wp2_with (fail)
    refine SM.out.mono ?_
    rintro e w13 ⟨rfl, hb13⟩
    have s13 := S12.out.1.below hb13
    have x13 := kept S12.out.2 hb13
    obtain ⟨u13, v13⟩ := (s13.has zeroPt_ok).1
    obtain ⟨y13, z13⟩ := (coin_has (m := ⟨cnV 1, A6, k6⟩) zeroPt_ok x13).1
    have RS := rsame06_any ⟨cnV 1, A6, k6⟩ ⟨cnV 1, none, 0⟩ w13 (hm6 w13) (cnV_ok _ 1 (by omega))
    rw [show decide ((⟨cnV 1, A6, k6⟩ : Cm).c = (⟨cnV 1, none, 0⟩ : Cm).c) = true from decide_eq_true rfl] at RS
    have S13 := Lib.hid s13
    clear s13 x13 hb13
    go_wp2_with (fail)
    refine RS.mono ?_
    rintro e w14 ⟨rfl, hb14⟩
    have s14 := S13.out.below hb14
    have LN := len_m s14.tb
    rw [show (([] : List (List Cn)).flatten.length : Nat) = 0 from rfl] at LN
    have B14 := Lib.hid s14.bel
    clear s14 hb14 u13 v13 y13 z13 RS
    go_wp2_with (fail)
    refine LN.mono ?_
    rintro e w15 ⟨rfl, rfl⟩
    go_wp2_with (fail)
    go_ret
    exact ⟨rfl, B14.out⟩
  · cases h5
end Go.Proofs.Ytofclanljhfkiaa
