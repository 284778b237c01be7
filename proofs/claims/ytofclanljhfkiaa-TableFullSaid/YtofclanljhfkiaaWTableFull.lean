/- Joined texts: TbH, TbI, TbJ. -/
import Derived.Test.YtofclanljhfkiaaM16
import Derived.IntWalk
import Derived.Test.YtofclanljhfkiaaM3
/- TableFresh: what is handed in stays, what is answered is new memory. -/
namespace Go.Proofs.Ytofclanljhfkiaa
open Go.RowKit Go.Proofs En Co
set_option linter.unusedVariables false
set_option linter.unusedSimpArgs false
set_option maxRecDepth 20000
attribute [local go_sem ↓] ld_point_eq ld_coin_eq ld_hash_eq st_point_eq st_coin_eq bd_point_eq bd_coin_eq eq_point_eq ne_point_eq al_coin_eq al_point_eq bs_coin_eq
attribute [local go_sem] ld_point_run ld_coin_run ld_hash_run st_point_run st_coin_run bd_point_zero bd_coin_zero bd_point_of bd_coin_of hash_at rowIs_34 rowIs_37 rowIs_both hasAt_both cellsAt_both eq_point_run ne_point_run guard_pt al_coin_run al_point_run al_coin_row al_point_row nil_bytes nil_coins bs_coin_run

/-- a row of bytes is spoiled, and nothing else -/
theorem spoilO_any (g n c base : Nat) (xs : List Int) (x : Int) (w : World) (ho : OwnN w base 5 .u8 (some ⟨g, 0, none⟩) n c xs) (hc : c ≤ 9223372036854775807) :
    Calls Try.prog 40 #[.slice (some ⟨g, 0, none⟩) n c, .int .u8 x] w fun e w' => e = .returned (.tuple #[]) ∧ Only w w' g none := by
  have hnc := Own.len_cap ho
  have I := Lib.hid ho
  go_enter Try.func40, Try.ntmps40
  go_wp2_with (fail)
  go_loopw [5] (fun i wr => ∃ k : Nat, k ≤ c ∧ i = .int .i64 k ∧ (∃ ys, OwnN wr base 5 .u8 (some ⟨g, 0, none⟩) n c ys) ∧ Only w wr g none) (fun i _ => c - (intOf i).toNat)
  case atStart => exact ⟨0, by omega, rfl, ⟨xs, I.out⟩, Only.refl _ _ _⟩
  case round =>
    obtain ⟨k, hk, rfl, ⟨ys, ho2⟩, hb⟩ := hrel
    by_cases hlt : k < c
    · obtain ⟨u, hcell, ⟨y, hy⟩, hf⟩ := Own.cap_cell ho2 k (by omega)
      subst hy
      clear hnc
      go_wp2_with (fail)
      go_roundw
      case rel => exact ⟨k + 1, by omega, by go_num, ⟨_, OwnN.set ho2 k _⟩, hb.setCell (.inl rfl) _⟩
      case measure => simp [intOf]; omega
    · obtain rfl : k = c := by omega
      go_wp2_with (fail)
      go_end0
      exact ⟨rfl, hb⟩
/-- a table behind a change to a row of bytes that is none of its locks -/
theorem Tab.lone {w w' : World} {base g np cp k : Nat} {P : Option Addr} {gs : List Pg} (h : Tab w base g P np cp gs) (ho : Only w w' k none) {xs : Array Value} (hk : w.heap[k]? = some (.cells xs 5 (0, 0))) (hne : ∀ z ∈ allC gs, blk z.A ≠ some k) : Tab w' base g P np cp gs := by
  have hrow : ∀ {e : TypeId} {size : Nat} {G : Value → Prop} {A : Option Addr} {n c : Nat} {cs : List Value}, Own w base e size G A n c cs → blk A ≠ some k → Own w' base e size G A n c cs := fun hq hq2 =>
    Own.keep hq fun i hi => ho.block i (Own.lt hq i hi).2 (fun e => hq2 (by rw [hi, e])) (fun e => by cases e)
  refine ⟨h.low, ?_, hrow h.pages (Own.ne_block h.pages hk (by decide)), fun x hx => ⟨⟨hrow (h.own x hx).1.row (Own.ne_block (h.own x hx).1.row hk (by decide)), fun m hm => ⟨((h.own x hx).1.ok m hm).1, hrow ((h.own x hx).1.ok m hm).2.1 (hne m (List.mem_flatMap.2 ⟨x, hx, hm⟩)), ((h.own x hx).1.ok m hm).2.2⟩, (h.own x hx).1.len⟩, (h.own x hx).2⟩, h.up, h.most⟩
  refine (ho.block g (Array.getElem?_eq_some_iff.1 h.row).1 (fun e => ?_) (fun e => by cases e)).trans h.row
  subst e
  rw [h.row] at hk
  injection hk with hk
  injection hk with _ hk
  exact absurd hk (by decide)

theorem Own.upper {w w' : World} {base : Nat} {e : TypeId} {size : Nat} {G : Value → Prop} {A : Option Addr} {n c : Nat} {cs : List Value} (h : Own w base e size G A n c cs) (hk : ∀ k, base ≤ k → k < w.heap.size → w'.heap[k]? = w.heap[k]?) : Own w' base e size G A n c cs :=
  Own.keep h fun k hb => hk k (Own.lt h k hb).1 (Own.lt h k hb).2
/-- a table hangs on the blocks from its base on alone -/
theorem Tb.upper {w w' : World} {base g : Nat} {P : Option Addr} {ps : List (List Cn)} (h : Tb w base g P ps) (hk : ∀ k, base ≤ k → k < w.heap.size → w'.heap[k]? = w.heap[k]?) : Tb w' base g P ps := by
  obtain ⟨np, cp, gs, h, e⟩ := h
  exact ⟨np, cp, gs, ⟨h.low, (hk g h.low (Array.getElem?_eq_some_iff.1 h.row).1).trans h.row, Own.upper h.pages hk, fun x hx => ⟨⟨Own.upper (h.own x hx).1.row hk, fun m hm => ⟨((h.own x hx).1.ok m hm).1, Own.upper ((h.own x hx).1.ok m hm).2.1 hk, ((h.own x hx).1.ok m hm).2.2⟩, (h.own x hx).1.len⟩, (h.own x hx).2⟩, h.up, h.most⟩, e⟩

/-- the coin that came in, in its box; the table -/
structure FrS (w wr : World) (g : Nat) (P : Option Addr) (ps : List (List Cn)) (m : Cm) : Prop where
  bel : Below w.heap.size w wr
  tb : Tb wr (w.heap.size + 1) g P ps
  box : wr.heap[w.heap.size]? = some (.cells (cc m).toArray 57 (0, 0))
  ok0 : m.ok w
theorem FrS.ok {w wr : World} {g : Nat} {P : Option Addr} {ps : List (List Cn)} {m : Cm} (h : FrS w wr g P ps m) : m.ok wr := h.ok0.below h.bel
theorem FrS.below {w wr w2 : World} {g : Nat} {P : Option Addr} {ps : List (List Cn)} {m : Cm} (h : FrS w wr g P ps m) (hb : Below wr.heap.size wr w2) : FrS w w2 g P ps m :=
  ⟨bThen h.bel hb, h.tb.below hb, kept h.box hb, h.ok0⟩
theorem FrS.has {w wr : World} {g : Nat} {P : Option Addr} {ps : List (List Cn)} {m : Cm} (h : FrS w wr g P ps m) : (hasAt wr w.heap.size 0 37 ∧ cellsAt wr w.heap.size 0 37 = (cc m).toArray) ∧ (hasAt wr w.heap.size 0 34 ∧ cellsAt wr w.heap.size 0 34 = (pc m.c.p).toArray) := coin_has h.ok.c.p h.box
theorem OwnP.one {w : World} {base : Nat} {B : Option Addr} {c : Nat} {hs : List Cm} {d : Cn} (h : OwnP w base B 1 c hs) (hd : cns hs = [d]) : ∃ k A l, B = some ⟨k, 0, none⟩ ∧ w.cell? ⟨k, 36, none⟩ = some (.slice A d.l.length l) ∧ OwnB w base A d.l.length l d.l ∧ 1 ≤ c := by
  have hl := h.len
  have hcap := (Own.len_cap h.row).1
  obtain ⟨z, rfl⟩ : ∃ z, hs = [z] := by
    match hs, hl with
    | [z], _ => exact ⟨z, rfl⟩
  have hz : z.c = d := by simpa [cns] using hd
  subst hz
  rcases h.row.2 with ⟨_, h0, _⟩ | ⟨k, cur, rfl, _⟩
  · cases h0
  · have hzo := h.ok z (List.mem_singleton.2 rfl)
    refine ⟨k, z.A, z.k, rfl, ?_, hzo.2.1, hcap⟩
    have := Own.cells h.row (ad := ⟨k, 0, none⟩) rfl 36 (.slice z.A z.c.l.length z.k) (by
      have := (cc_get hzo.1.p).2.2
      unfold pcs
      simpa [Cm.lk] using this)
    rw [add_new] at this
    exact this
theorem pageM_one (c : Cn) : pageM [[c]] 0 = ([c], 0) := by unfold pageM; simp
theorem FrS.only {w wr w2 : World} {g : Nat} {P P' : Option Addr} {ps qs : List (List Cn)} {m : Cm} (h : FrS w wr g P ps m) (ho : Only wr w2 g P) (ht : Tb w2 (w.heap.size + 1) g P' qs) : FrS w w2 g P' qs m := by
  obtain ⟨⟨xs, h1⟩, h2⟩ := h.tb.kinds
  have hb := (h.tb.frame ho).mono (Nat.le_succ w.heap.size)
  have bel := h.bel.trans hb
  refine ⟨bel, ht, ho.heap h.box (fun e => ?_) (fun e => ?_), h.ok0⟩
  · have h3 := h.box
    rw [e, h1] at h3
    injection h3 with h3
    injection h3 with _ h3
    exact absurd h3 (by decide)
  · obtain ⟨ys, h4⟩ := h2 _ e
    have h3 := h.box
    rw [h4] at h3
    injection h3 with h3
    injection h3 with _ h3
    exact absurd h3 (by decide)
/-- a lock that came in is not the table -/
theorem FrS.far {w wr : World} {g : Nat} {P : Option Addr} {ps : List (List Cn)} {m : Cm} (h : FrS w wr g P ps m) : 0 < m.c.l.length → blk m.A ≠ some g := by
  intro h0 e
  obtain ⟨ad, he, hb, _⟩ := h.ok0.arg.rd.2 h0
  rw [he] at e
  have e2 : ad.block = g := by simpa [blk] using e
  have := h.tb.low.1
  omega
theorem putM_first {c : Cn} (h : mayO c.v c.l = true) : putM [] c = ([[c]], 0) := by
  unfold putM
  rw [if_pos h]
  rfl
theorem findF_one (c : Cn) : findF [[c]] c.p = some c := by unfold findF; simp
theorem getM_one (c : Cn) : getM [[c]] c.p = (c, 0) := by unfold getM; rw [findF_one]
theorem takeM_one (c : Cn) : takeM [[c]] c.p = ([], c, 0) := by
  unfold takeM
  rw [findF_one]
  simp [takeF2, lostF]

set_option maxRecDepth 20000 in
set_option maxHeartbeats 4000000 in
theorem tableFresh_walk (m : Cm) (w : World) (hm' : m.ok w ∧ m.k ≤ 140737488351232) :
    Calls Try.prog 9 #[.agg (cc m).toArray] w fun e w' => e = .returned (.bool true) ∧ Below w.heap.size w w' := by
  obtain ⟨hm, hmk⟩ := hm'
  have lm1 := hm.arg.cap
  have f1 : (w.alloc (.cells (cc m).toArray 57)).heap[w.heap.size]? = some (.cells (cc m).toArray 57 (0, 0)) := heap_alloc_new w _
  have b1 : Below w.heap.size w (w.alloc (.cells (cc m).toArray 57)) := (Below.refl _ _).alloc (Nat.le_refl _) _
  have hs1 : (w.alloc (.cells (cc m).toArray 57)).heap.size = w.heap.size + 1 := by simp
  have hokm := cc_ok hm.c.p
  have NW := new_any (w.alloc (.cells (cc m).toArray 57))
  rw [hs1] at NW
  have H0 := Lib.hid (And.intro hm (And.intro f1 b1))
  clear hm f1 b1
  go_enter Try.func9, Try.ntmps9
  go_wp2_with (fail)
  refine NW.mono ?_
  rintro e w2 ⟨rfl, hw2⟩
  have hb2 : Below (w.alloc (.cells (cc m).toArray 57)).heap.size (w.alloc (.cells (cc m).toArray 57)) w2 := by rw [hw2]; exact (Below.refl _ _).alloc (Nat.le_refl _) _
  have t2 : w2.heap[w.heap.size + 1]? = some (.cells #[.bool true, .slice none 0 0, .int .i64 0] 29 (0, 0)) := by rw [hw2, ← hs1]; exact heap_alloc_new _ _
  have f2 := kept H0.out.2.1 hb2
  have bl2 := bThen H0.out.2.2 hb2
  have sl := slot_self w2 (.cells (cc zm).toArray 57) (cc m).toArray
  have g3 := both_row w2 (cc zm).toArray 57 (cc m).toArray
  have f3 := kept f2 sl
  have t3 := kept t2 sl
  have bl3 := bThen bl2 sl
  obtain ⟨u2, v2⟩ := (coin_has H0.out.1.c.p f2).1
  have z3 := lock_cell H0.out.1.c.p f3
  have hz2 : w.heap.size + 1 < w2.heap.size := (Array.getElem?_eq_some_iff.1 t2).1
  have H3 := Lib.hid (And.intro f3 (And.intro g3 (And.intro bl3 t3)))
  clear hw2 f2 bl2 sl g3 f3 bl3 t3 t2 hb2
  go_wp2_with (fail)
  refine (wide_any inf_b m.A m.c.l.length m.k m.c.l _ (H0.out.1.below H3.out.2.2.1).arg.rd (by omega)).mono ?_
  rintro e w4 ⟨A2, rfl, ho4, hb4⟩
  obtain ⟨kA, rfl⟩ : ∃ kA, A2 = some ⟨kA, 0, none⟩ := by
    rcases ho4.2 with ⟨_, h, _⟩ | ⟨kA, cur, h, _⟩
    · omega
    · exact ⟨kA, h⟩
  have hkA := OwnN.lt ho4 kA rfl
  have hs3 : ((w2.alloc (.cells (cc zm).toArray 57)).setRow w2.heap.size (cc m).toArray).heap.size = w2.heap.size + 1 := by simp
  rw [hs3] at hkA
  have f4 := kept H3.out.1 hb4
  have g4 := kept H3.out.2.1 hb4
  have t4 := kept H3.out.2.2.2 hb4
  have bl4 := bThen H3.out.2.2.1 hb4
  have o5 := Own.setOther ho4 (p := ⟨w2.heap.size, 36, none⟩) (fun e => by have : kA = w2.heap.size := (by simpa [blk] using e); omega) (.slice (some ⟨kA, 0, none⟩) m.c.l.length (m.c.l.length + 3))
  have f5 := (Below.heap_setCell w4 ⟨w2.heap.size, 36, none⟩ (.slice (some ⟨kA, 0, none⟩) m.c.l.length (m.c.l.length + 3)) w.heap.size (by show w.heap.size ≠ w2.heap.size; omega)).trans f4
  have t5 := (Below.heap_setCell w4 ⟨w2.heap.size, 36, none⟩ (.slice (some ⟨kA, 0, none⟩) m.c.l.length (m.c.l.length + 3)) (w.heap.size + 1) (by show w.heap.size + 1 ≠ w2.heap.size; omega)).trans t4
  have g5 := lock_row H0.out.1.c.p (some ⟨kA, 0, none⟩) (m.c.l.length + 3) g4
  have bl5 := bl4.setCell (p := ⟨w2.heap.size, 36, none⟩) (by show w.heap.size ≤ w2.heap.size; omega) (.slice (some ⟨kA, 0, none⟩) m.c.l.length (m.c.l.length + 3))
  have hm5 : Cm.ok _ ⟨m.c, some ⟨kA, 0, none⟩, m.c.l.length + 3⟩ := ⟨H0.out.1.c, wide_arg o5 H0.out.1.c.l rfl (by show m.c.l.length ≤ _; omega)⟩
  have z4f := (row_cells g4 36).2
  have z4 := lock_cell H0.out.1.c.p g4
  have hT5 : Tab (w4.setCell ⟨w2.heap.size, 36, none⟩ (.slice (some ⟨kA, 0, none⟩) m.c.l.length (m.c.l.length + 3))) (w.heap.size + 1) (w.heap.size + 1) none 0 0 [] := ⟨by omega, t5, Own.nil _ _ _ _ _, fun _ h => (by cases h), List.Pairwise.nil, Nat.zero_le _⟩
  obtain ⟨u5, v5⟩ := (coin_has (m := ⟨m.c, some ⟨kA, 0, none⟩, m.c.l.length + 3⟩) H0.out.1.c.p g5).1
  have PU := Lib.hid (putT_any hT5 ⟨m.c, some ⟨kA, 0, none⟩, m.c.l.length + 3⟩ hm5 (fun _ e => by have : kA = w.heap.size + 1 := (by simpa [blk] using e); omega))
  have H5 := Lib.hid (And.intro f5 (And.intro g5 (And.intro bl5 (And.intro o5 hT5))))
  clear ho4 hb4 f4 g4 t4 bl4 o5 f5 t5 g5 bl5 hm5 hT5 u2 v2
  go_wp2_with (fail)
  refine PU.out.mono ?_
  rintro e w6 (⟨h1, rfl, hb6⟩ | ⟨h1, pg, at_, is, hf, hcase⟩)
  · have f6 := kept H5.out.1 hb6
    have bl6 := bThen H5.out.2.2.1 hb6
    obtain ⟨u6, v6⟩ := (coin_has H0.out.1.c.p f6).1
    have MY := rmay06_any m w6 (H0.out.1.below bl6)
    rw [show mayO m.c.v m.c.l = false from h1] at MY
    have B6 := Lib.hid bl6
    clear bl6 f6 hb6 u5 v5
    go_wp2_with (fail)
    refine MY.mono ?_
    rintro e w7 ⟨rfl, hb7⟩
    have B7 := Lib.hid (bThen B6.out hb7)
    clear hb7
    go_wp2_with (fail)
    refine (works24_any w7).mono ?_
    rintro e w8 ⟨rfl, hb8⟩
    have B8 := Lib.hid (bThen B7.out hb8)
    clear hb8
    go_wp2_with (fail)
    go_ret
    exact ⟨rfl, B8.out⟩
  · have hfe : is = false ∧ pg = 0 ∧ at_ = 0 := by
      rcases hf with ⟨_, h2, h3, h4⟩ | ⟨x, hx, _⟩
      · exact ⟨h4, h2, h3⟩
      · simp at hx
    obtain ⟨rfl, rfl, rfl⟩ := hfe
    rcases hcase with ⟨h2, _⟩ | ⟨_, h2, _⟩ | ⟨_, _, rfl, P6, np6, cp6, gs6, hp6, hT6, hk6, ho6, hnl⟩
    · cases h2
    · exact absurd h2 (by decide)
    · have hkAn : blk (some (⟨kA, 0, none⟩ : Addr)) ≠ some (w.heap.size + 1) := fun e => by have : kA = w.heap.size + 1 := (by simpa [blk] using e); omega
      have f6 := ho6.heap H5.out.1 (by omega) (fun e => by cases e)
      have g6 := ho6.heap H5.out.2.1 (by omega) (fun e => by cases e)
      have o6 := Own.only H5.out.2.2.2.1 ho6 H5.out.2.2.2.2.kinds (by decide) (by decide)
      have bl6 := H5.out.2.2.1.trans (ho6.below (by have := H5.out.2.2.1.size; omega) (show w.heap.size ≤ w.heap.size + 1 by omega) (fun k hk => by cases hk))
      have rA := OwnN.rd o6
      have hm6 := H0.out.1.below bl6
      have z6 := lock_cell H0.out.1.c.p f6
      have y6 := lock_cell (m := ⟨m.c, some ⟨kA, 0, none⟩, m.c.l.length + 3⟩) H0.out.1.c.p g6
      have LF := left_any (some ⟨kA, 0, none⟩) m.c.l.length m.A m.k m.c.l w6 rA hm6.arg.rd (by have := hm6.arg.len; omega)
      have hps : pgsOf gs6 = [[m.c]] := hp6
      have hnl6 : ∀ z ∈ allC gs6, blk z.A ≠ some kA := by
        intro z hz
        rcases hnl z hz with hz | hz
        · cases hz
        · intro e
          have h9 := hz kA e
          have h8 : kA < (w4.setCell ⟨w2.heap.size, 36, none⟩ (.slice (some ⟨kA, 0, none⟩) m.c.l.length (m.c.l.length + 3))).heap.size := by simpa using hkA.2
          omega
      have H6 := Lib.hid (And.intro f6 (And.intro g6 (And.intro o6 (And.intro bl6 (And.intro hT6 (And.intro hps hnl6))))))
      clear f6 g6 o6 bl6 hT6 hps hnl6 hnl hp6 hk6 ho6 rA hm6 u5 v5
      go_wp2_with (fail)
      refine LF.mono ?_
      rintro e w7 ⟨rfl, hb7⟩
      have f7 := kept H6.out.1 hb7
      have g7 := kept H6.out.2.1 hb7
      have o7 := Own.below H6.out.2.2.1 hb7
      have y7 := lock_cell (m := ⟨m.c, some ⟨kA, 0, none⟩, m.c.l.length + 3⟩) H0.out.1.c.p g7
      have SO := spoilO_any kA m.c.l.length (m.c.l.length + 3) _ m.c.l 1 w7 (by
        have := Own.short o7 (k := m.c.l.length) (by omega)
        unfold OwnN ns at *
        rw [Nat.mul_one, List.map_append, List.take_append_of_le_length (by simp), List.take_of_length_le (by simp)] at this
        exact this) (by omega)
      have H7 := Lib.hid (And.intro f7 (And.intro o7 hb7))
      clear f7 g7 o7 hb7 z6 y6 LF
      go_wp2_with (fail)
      refine SO.mono ?_
      rintro e w8 ⟨rfl, ho8⟩
      obtain ⟨xsA, hxA⟩ : ∃ xs, w7.heap[kA]? = some (.cells xs 5 (0, 0)) := by
        rcases H7.out.2.1.2 with ⟨h, _⟩ | ⟨k, cur, h, _, h4, _⟩
        · cases h
        · cases h
          exact ⟨cur, h4⟩
      have T8 := (H6.out.2.2.2.2.1.below H7.out.2.2).lone ho8 hxA H6.out.2.2.2.2.2.2
      have f8 := ho8.heap H7.out.1 (by omega) (fun e => by cases e)
      have bl7 := bThen H6.out.2.2.2.1 H7.out.2.2
      have bl8 := bl7.trans (ho8.below bl7.size (show w.heap.size ≤ kA by omega) (fun k hk => by cases hk))
      have F8 : FrS w w8 (w.heap.size + 1) P6 [[m.c]] m := ⟨bl8, ⟨_, _, _, T8, H6.out.2.2.2.2.2.1⟩, f8, H0.out.1⟩
      have F8 := Lib.hid F8
      clear T8 f8 bl7 bl8 ho8 y7 SO
      have GT9 := get_m F8.out.tb m.c.p H0.out.1.c.p
      rw [getM_one] at GT9
      obtain ⟨u9, v9⟩ := F8.out.has.2
      go_wp2_with (fail)
      refine GT9.mono ?_
      rintro e w9 ⟨A9, k9, rfl, ho9, hb9⟩
      have ok9 := cc_ok (m := ⟨m.c, A9, k9⟩) H0.out.1.c.p
      have sl9 := slot_self w9 (.cells (cc zm).toArray 57) (cc ⟨m.c, A9, k9⟩).toArray
      have bx9 := both_row w9 (cc zm).toArray 57 (cc ⟨m.c, A9, k9⟩).toArray
      have bs9 := bThen hb9 sl9
      have F9 := F8.out.below bs9
      have oo9 := OwnN.below ho9 sl9
      have cm9 : Cm.ok _ ⟨m.c, A9, k9⟩ := ⟨H0.out.1.c, oo9.rd, H0.out.1.c.l, (Own.len_cap oo9).1, (Own.len_cap oo9).2, by have := H0.out.1.arg.len; show m.c.l.length ≤ _; omega⟩
      have RS9 := rsame06_any ⟨m.c, A9, k9⟩ m _ cm9 F9.ok
      rw [show decide ((⟨m.c, A9, k9⟩ : Cm).c = m.c) = true from decide_eq_true rfl] at RS9
      have X9 := Lib.hid (And.intro F9 (And.intro bx9 (And.intro oo9 bs9)))
      obtain ⟨x9, y9⟩ := F9.has.1
      clear F9 bx9 oo9 bs9 sl9 ho9 hb9 cm9 u9 v9 GT9
      go_wp2_with (fail)
      refine RS9.mono ?_
      rintro e w10 ⟨rfl, hb10⟩
      have z10 := lock_cell (m := ⟨m.c, A9, k9⟩) H0.out.1.c.p (kept X9.out.2.1 hb10)
      have hz10 := hb10.size
      have hz9 := X9.out.2.2.2.size
      have oc := Own.len_cap X9.out.2.2.1
      have SP := spoil_any A9 _ k9 w8.heap.size m.c.l 1 w10 (OwnN.below X9.out.2.2.1 hb10) (by omega) oc.2
      have B10 := Lib.hid (bThen X9.out.2.2.2 hb10)
      clear hb10 x9 y9 RS9
      go_wp2_with (fail)
      refine SP.mono ?_
      rintro e w12 ⟨rfl, hb12, _⟩
      have F12 := Lib.hid (F8.out.below (B10.out.trans hb12))
      have hz12 := (B10.out.trans hb12).size
      clear hb12 z10 SP
      have AL := all_m F12.out.tb
      rw [show ([[m.c]] : List (List Cn)).flatten = [m.c] from rfl, show [m.c].length = 1 from rfl] at AL
      go_wp2_with (fail)
      refine AL.mono ?_
      rintro e w13 ⟨A13, d13, hs13, rfl, hc13, ho13, hb13⟩
      obtain ⟨k13, B13, l13, rfl, z13, oo13, hd13⟩ := ho13.one hc13
      have SP := spoil_any B13 _ l13 w12.heap.size m.c.l 1 w13 oo13 hb13.size (Own.len_cap oo13).2
      have B13b := Lib.hid hb13
      clear ho13 oo13 hb13 AL hc13
      go_wp2_with (fail)
      refine SP.mono ?_
      rintro e w14 ⟨rfl, hb14, _⟩
      have F14 := Lib.hid (F12.out.below (B13b.out.trans hb14))
      clear hb14 z13 SP
      have PGE := page_m F14.out.tb 0 (by omega)
      rw [pageM_one] at PGE
      simp only [List.length_singleton] at PGE
      go_wp2_with (fail)
      refine PGE.mono ?_
      rintro e w15 ⟨A15, d15, hs15, rfl, hc15, ho15, hb15⟩
      obtain ⟨k15, B15, l15, rfl, z15, oo15, hd15⟩ := ho15.one hc15
      have SP := spoil_any B15 _ l15 w14.heap.size m.c.l 1 w15 oo15 hb15.size (Own.len_cap oo15).2
      have B15b := Lib.hid hb15
      clear ho15 oo15 hb15 PGE hc15
      go_wp2_with (fail)
      refine SP.mono ?_
      rintro e w16 ⟨rfl, hb16, _⟩
      have F16 := Lib.hid (F14.out.below (B15b.out.trans hb16))
      clear hb16 z15 SP
      have CP := copy_m F16.out.tb
      go_wp2_with (fail)
      refine CP.mono ?_
      rintro e w17 ⟨g17, P17, rfl, hT17, hb17⟩
      have F17 := F16.out.below hb17
      obtain ⟨u17, v17⟩ := F17.has.2
      have TK := take_m hT17 m.c.p H0.out.1.c.p
      rw [takeM_one] at TK
      have H17 := Lib.hid (And.intro hT17 hb17)
      clear F17 hT17 hb17 CP
      go_wp2_with (fail)
      refine TK.mono ?_
      rintro e w18 ⟨A18, k18, rfl, oo18, P18, hT18, hk18, ho18⟩
      have ok18 := cc_ok (m := ⟨m.c, A18, k18⟩) H0.out.1.c.p
      have sl18 := slot_self w18 (.cells (cc zm).toArray 57) (cc ⟨m.c, A18, k18⟩).toArray
      have bx18 := both_row w18 (cc zm).toArray 57 (cc ⟨m.c, A18, k18⟩).toArray
      have b18 := H17.out.2.trans (H17.out.1.frame ho18)
      have b18s := b18.trans (sl18.mono b18.size)
      have z18 := lock_cell (m := ⟨m.c, A18, k18⟩) H0.out.1.c.p bx18
      have SP := spoil_any A18 _ k18 w16.heap.size m.c.l 1 _ (OwnN.below oo18 sl18) b18s.size (Own.len_cap oo18).2
      have H18 := Lib.hid b18s
      clear oo18 hT18 hk18 ho18 sl18 bx18 b18 b18s TK u17 v17
      go_wp2_with (fail)
      refine SP.mono ?_
      rintro e w20 ⟨rfl, hb20, _⟩
      have F20 := Lib.hid (F16.out.below (H18.out.trans hb20))
      clear hb20 z18 SP
      have GT21 := get_m F20.out.tb m.c.p H0.out.1.c.p
      rw [getM_one] at GT21
      obtain ⟨u21, v21⟩ := F20.out.has.2
      go_wp2_with (fail)
      refine GT21.mono ?_
      rintro e w21 ⟨A21, k21, rfl, ho21, hb21⟩
      have ok21 := cc_ok (m := ⟨m.c, A21, k21⟩) H0.out.1.c.p
      have sl21 := slot_self w21 (.cells (cc zm).toArray 57) (cc ⟨m.c, A21, k21⟩).toArray
      have bx21 := both_row w21 (cc zm).toArray 57 (cc ⟨m.c, A21, k21⟩).toArray
      have bs21 := bThen hb21 sl21
      have F21 := F20.out.below bs21
      have oo21 := OwnN.below ho21 sl21
      have cm21 : Cm.ok _ ⟨m.c, A21, k21⟩ := ⟨H0.out.1.c, oo21.rd, H0.out.1.c.l, (Own.len_cap oo21).1, (Own.len_cap oo21).2, by have := H0.out.1.arg.len; show m.c.l.length ≤ _; omega⟩
      have RS21 := rsame06_any ⟨m.c, A21, k21⟩ m _ cm21 F21.ok
      rw [show decide ((⟨m.c, A21, k21⟩ : Cm).c = m.c) = true from decide_eq_true rfl] at RS21
      have X21 := Lib.hid (And.intro F21 (And.intro bx21 (And.intro oo21 bs21)))
      obtain ⟨x21, y21⟩ := F21.has.1
      clear F21 bx21 oo21 bs21 sl21 ho21 hb21 cm21 u21 v21 GT21
      go_wp2_with (fail)
      refine RS21.mono ?_
      rintro e w22 ⟨rfl, hb22⟩
      have B22 := Lib.hid (bThen X21.out.1.bel hb22)
      clear hb22 x21 y21 RS21
      go_wp2_with (fail)
      refine (works24_any w22).mono ?_
      rintro e w23 ⟨rfl, hb23⟩
      have B23 := Lib.hid (bThen B22.out hb23)
      clear hb23
      go_wp2_with (fail)
      go_ret
      exact ⟨rfl, B23.out⟩
end Go.Proofs.Ytofclanljhfkiaa
/- Plain: which coins a table has behind Put and Take; rising coins are told by what they are. -/
namespace Go.Proofs.Ytofclanljhfkiaa
open Go.RowKit Go.Proofs En Co
set_option linter.unusedVariables false
set_option linter.unusedSimpArgs false
set_option maxRecDepth 20000

theorem insF_perm (l : List Cn) (c : Cn) : (insF l c).Perm (c :: l) := by
  unfold insF
  refine List.perm_middle.trans ?_
  rw [List.takeWhile_append_dropWhile]
theorem flatten_at {ps : List (List Cn)} {n : Nat} (hn : n < ps.length) : ps.flatten = (ps.take n).flatten ++ (ps.getD n [] ++ (ps.drop (n + 1)).flatten) := by
  have h : ps[n]? = some (ps.getD n []) := by rw [List.getD_eq_getElem?_getD, List.getElem?_eq_getElem hn]; rfl
  have e := split_at h
  calc ps.flatten = (ps.take n ++ ps.getD n [] :: ps.drop (n + 1)).flatten := by rw [← e]
    _ = _ := by rw [List.flatten_append, List.flatten_cons]
theorem cutF_flat (l : List Cn) : (cutF l).flatten = l := by
  unfold cutF
  split
  · simp
  · simp
theorem putF2_perm (ps : List (List Cn)) (c : Cn) : (putF2 ps c).flatten.Perm (c :: ps.flatten) := by
  unfold putF2
  split
  · rename_i h
    rw [List.eq_nil_of_length_eq_zero h]
    exact List.Perm.refl _
  · rename_i h
    have hn := pageNk_lt ps c.p ps.length (by omega)
    rw [List.flatten_append, List.flatten_append, cutF_flat, flatten_at hn, List.append_assoc]
    refine List.Perm.trans (List.Perm.append_left _ (List.Perm.append_right _ (insF_perm _ c))) ?_
    exact List.perm_middle
theorem lostF_flat (ps : List (List Cn)) (p : Pt) : (takeF2 ps p).flatten = lostF ps.flatten p := by
  unfold takeF2 lostF
  induction ps with
  | nil => rfl
  | cons l r ih =>
    rw [List.map_cons, List.flatten_cons, List.filter_append, List.filter_cons]
    split
    · rw [List.flatten_cons, ih]
    · rename_i h
      have h0 : (l.filter (fun c => decide (c.p ≠ p))) = [] := by
        have : ¬ 0 < (l.filter (fun c => decide (c.p ≠ p))).length := by simpa using h
        exact List.eq_nil_of_length_eq_zero (by omega)
      rw [ih, h0, List.nil_append]
theorem lost_perm {l : List Cn} {p : Pt} {c : Cn} (h : Rise (l.map Cn.p)) (hc : c ∈ l) (hp : c.p = p) : (c :: lostF l p).Perm l := by
  obtain ⟨i, hi, e⟩ := List.getElem_of_mem hc
  have hi2 : l[i]? = some c := by rw [List.getElem?_eq_getElem hi, e]
  rw [lostF_erase h hi2 hp, List.eraseIdx_eq_take_drop_succ]
  refine List.Perm.trans List.perm_middle.symm ?_
  rw [← e, ← List.drop_eq_getElem_cons hi, List.take_append_drop]
/-- what rises is told by what is in it -/
theorem rise_perm : ∀ {a b : List Cn}, a.Perm b → Rise (a.map Cn.p) → Rise (b.map Cn.p) → a = b := by
  intro a
  induction a with
  | nil => intro b h _ _; exact (List.nil_perm.1 h).symm
  | cons x r ih =>
    intro b h ha hb
    cases b with
    | nil => exact absurd h.symm (by simp)
    | cons y s =>
      have hxa := List.pairwise_cons.1 (show Rise (x.p :: r.map Cn.p) from ha)
      have hyb := List.pairwise_cons.1 (show Rise (y.p :: s.map Cn.p) from hb)
      have hxy : x = y := by
        have hx : x ∈ y :: s := h.subset (List.mem_cons_self ..)
        have hy : y ∈ x :: r := h.symm.subset (List.mem_cons_self ..)
        rcases List.mem_cons.1 hx with hx | hx
        · exact hx
        · rcases List.mem_cons.1 hy with hy | hy
          · exact hy.symm
          · have h1 := hyb.1 x.p (List.mem_map.2 ⟨x, hx, rfl⟩)
            have h2 := hxa.1 y.p (List.mem_map.2 ⟨y, hy, rfl⟩)
            rw [lessF_asymm h1] at h2
            cases h2
      subst hxy
      rw [ih ((List.perm_cons x).1 h) hxa.2 hyb.2]
theorem findF_perm {ps : List (List Cn)} {l : List Cn} (h : ps.flatten.Perm l) {p : Pt} (hn : ∀ c ∈ l, c.p ≠ p) : findF ps p = none := findF_none fun c hc => hn c (h.subset hc)
/-- Put, by what is in the table -/
theorem putM_ok {ps : List (List Cn)} {c : Cn} (h1 : mayO c.v c.l = true) (h2 : findF ps c.p = none) (h3 : ps.flatten.length < 2000) : putM ps c = (putF2 ps c, 0) := by
  unfold putM
  rw [if_pos h1, h2, if_neg (by decide), if_neg (by omega)]
theorem putM_arg {ps : List (List Cn)} {c : Cn} (h1 : mayO c.v c.l = false) : putM ps c = (ps, 2) := by
  unfold putM
  rw [if_neg (by rw [h1]; decide)]
theorem putM_twice {ps : List (List Cn)} {c d : Cn} (h1 : mayO c.v c.l = true) (h2 : findF ps c.p = some d) : putM ps c = (ps, 7) := by
  unfold putM
  rw [if_pos h1, h2]
  rfl
theorem putM_limit {ps : List (List Cn)} {c : Cn} (h1 : mayO c.v c.l = true) (h2 : findF ps c.p = none) (h3 : 2000 ≤ ps.flatten.length) : putM ps c = (ps, 3) := by
  unfold putM
  rw [if_pos h1, h2, if_neg (by decide), if_pos h3]
theorem takeM_some {ps : List (List Cn)} {p : Pt} {c : Cn} (h : findF ps p = some c) : takeM ps p = (takeF2 ps p, c, 0) := by unfold takeM; rw [h]
theorem takeM_none {ps : List (List Cn)} {p : Pt} (h : findF ps p = none) : takeM ps p = (ps, zeroCn, 6) := by unfold takeM; rw [h]
theorem takeF2_perm {ps : List (List Cn)} {p : Pt} {c : Cn} (hr : Rise (ps.flatten.map Cn.p)) (h : findF ps p = some c) : (c :: (takeF2 ps p).flatten).Perm ps.flatten := by
  rw [lostF_flat]
  exact lost_perm hr (findF_some h).1 (findF_some h).2
end Go.Proofs.Ytofclanljhfkiaa
/- TableFull: a table of as many coins as may be. -/
namespace Go.Proofs.Ytofclanljhfkiaa
open Go.RowKit Go.Proofs En Co
set_option linter.unusedVariables false
set_option linter.unusedSimpArgs false
set_option maxRecDepth 20000
attribute [local go_sem ↓] ld_point_eq ld_coin_eq ld_hash_eq st_point_eq st_coin_eq bd_point_eq bd_coin_eq eq_point_eq ne_point_eq al_coin_eq al_point_eq bs_coin_eq
attribute [local go_sem] ld_point_run ld_coin_run ld_hash_run st_point_run st_coin_run bd_point_zero bd_coin_zero bd_point_of bd_coin_of hash_at rowIs_34 rowIs_37 rowIs_both hasAt_both cellsAt_both eq_point_run ne_point_run guard_pt al_coin_run al_point_run al_coin_row al_point_row nil_bytes nil_coins bs_coin_run

/-- a point of a number and a height -/
def ptN (n h : Int) : Pt := ⟨List.replicate 32 0, n, h⟩
def cnI (n : Int) : Cn := ⟨ptN n 7, 1, false, []⟩
def cnP (p : Pt) : Cn := ⟨p, 0, false, []⟩
theorem ptN_ok {n h : Int} (hn : 0 ≤ n ∧ n ≤ 65535) (hh : 0 ≤ h ∧ h ≤ 4294967295) : (ptN n h).ok := ⟨by simp [ptN], (zeroPt_ok).isB, hn, hh⟩
theorem bd_point_nh (w : World) (n h : Int) : (bd_point #[(1, .int .u16 n), (2, .int .u32 h)]).run Try.prog w = .ok (.agg (pc (ptN n h)).toArray) w := by
  show (Instr.build 54 _).run Try.prog w = _
  kernel_rfl
theorem bd_coin_pv0 (w : World) (cs : Array Value) (v : Int) (hs : cs.size = 34) : (bd_coin #[(0, .agg cs), (1, .int .u64 v)]).run Try.prog w = .ok (.agg (mkCn cs v false (.slice none 0 0))) w := by
  obtain ⟨x0, x1, x2, x3, x4, x5, x6, x7, x8, x9, x10, x11, x12, x13, x14, x15, x16, x17, x18, x19, x20, x21, x22, x23, x24, x25, x26, x27, x28, x29, x30, x31, x32, x33, rfl⟩ := arr34 hs
  show (Instr.build 57 _).run Try.prog w = _
  kernel_rfl
theorem bd_coin_p0 (w : World) (cs : Array Value) (hs : cs.size = 34) : (bd_coin #[(0, .agg cs)]).run Try.prog w = .ok (.agg (mkCn cs 0 false (.slice none 0 0))) w := by
  obtain ⟨x0, x1, x2, x3, x4, x5, x6, x7, x8, x9, x10, x11, x12, x13, x14, x15, x16, x17, x18, x19, x20, x21, x22, x23, x24, x25, x26, x27, x28, x29, x30, x31, x32, x33, rfl⟩ := arr34 hs
  show (Instr.build 57 _).run Try.prog w = _
  kernel_rfl
theorem bd_coin_pv (w : World) (p : Pt) (v : Int) (h : p.ok) : (bd_coin #[(0, .agg (pc p).toArray), (1, .int .u64 v)]).run Try.prog w = .ok (.agg (cc ⟨⟨p, v, false, []⟩, none, 0⟩).toArray) w := by
  rw [bd_coin_pv0 w _ v (by simpa using pc_length h), ← mkCn_cc]; rfl
theorem bd_coin_p (w : World) (p : Pt) (h : p.ok) : (bd_coin #[(0, .agg (pc p).toArray)]).run Try.prog w = .ok (.agg (cc ⟨cnP p, none, 0⟩).toArray) w := by
  rw [bd_coin_p0 w _ (by simpa using pc_length h), ← mkCn_cc]; rfl
attribute [local go_sem] bd_point_nh bd_coin_pv bd_coin_p
/-- another height -/
def upH (c : Cn) (h : Int) : Cn := ⟨⟨c.p.tx, c.p.n, h⟩, c.v, c.base, c.l⟩
theorem height_row {w : World} {g : Nat} {t : TypeId} {m : Cm} (hp : m.c.p.ok) (h : Int) (hg : w.heap[g]? = some (.cells (cc m).toArray t (0, 0))) :
    (w.setCell ⟨g, 33, none⟩ (.int .u32 h)).heap[g]? = some (.cells (cc ⟨upH m.c h, m.A, m.k⟩).toArray t (0, 0)) := by
  rw [heap_setCell_same w g 33 _ t _ hg]
  have hl := hp.len
  have e : (cc m).toArray.setIfInBounds 33 (.int .u32 h) = (cc ⟨upH m.c h, m.A, m.k⟩).toArray := by
    rw [List.setIfInBounds_toArray]
    congr 1
    unfold cc pc upH
    simp only [List.append_assoc]
    rw [List.set_append_right _ _ (by rw [ns_length, hl]; omega), ns_length, hl]
    rfl
  rw [e]
theorem upH_ok {c : Cn} (h : c.ok) {x : Int} (hx : 0 ≤ x ∧ x ≤ 4294967295) : (upH c x).ok := ⟨⟨h.p.len, h.p.isB, h.p.n, hx⟩, h.v, h.l⟩

/-- so many coins -/
def cnIs (k : Nat) : List Cn := (List.range k).map (fun i : Nat => cnI i)
theorem cnIs_len (k : Nat) : (cnIs k).length = k := by unfold cnIs; simp
theorem cnIs_next (k : Nat) : cnIs (k + 1) = cnIs k ++ [cnI k] := by unfold cnIs; rw [List.range_succ, List.map_append]; rfl
theorem cnIs_mem {k : Nat} {c : Cn} (h : c ∈ cnIs k) : ∃ i : Nat, i < k ∧ c = cnI i := by
  obtain ⟨i, hi, rfl⟩ := List.mem_map.1 h
  exact ⟨i, List.mem_range.1 hi, rfl⟩
theorem cnIs_in {k i : Nat} (h : i < k) : cnI i ∈ cnIs k := List.mem_map.2 ⟨i, List.mem_range.2 h, rfl⟩
theorem full_next {ps : List (List Cn)} {k : Nat} (h : ps.flatten.Perm (cnIs k)) (hk : k < 2000) : (putM ps (cnI k)).2 = 0 ∧ (putM ps (cnI k)).1.flatten.Perm (cnIs (k + 1)) := by
  have hf : findF ps (cnI k).p = none := findF_perm h fun c hc => by
    obtain ⟨i, hi, rfl⟩ := cnIs_mem hc
    intro e
    have := congrArg Pt.n e
    simp [cnI, ptN] at this
    omega
  have hl : ps.flatten.length < 2000 := by rw [h.length_eq, cnIs_len]; exact hk
  rw [putM_ok (by show mayO 1 [] = true; decide) hf hl]
  refine ⟨rfl, (putF2_perm ps _).trans ?_⟩
  rw [cnIs_next]
  exact ((List.perm_cons _).2 h).trans (List.perm_append_singleton _ _).symm

/-- a block of another kind, behind a change to a table -/
theorem Only.box {w w' : World} {g k : Nat} {P : Option Addr} {xs : Array Value} {T : TypeId} (ho : Only w w' g P) (hk : Kinds w g P) (h : w.heap[k]? = some (.cells xs T (0, 0))) (h1 : T ≠ 29) (h2 : T ≠ 22) : w'.heap[k]? = some (.cells xs T (0, 0)) := by
  refine ho.heap h (fun e => ?_) (fun e => ?_)
  · obtain ⟨ys, hy⟩ := hk.1
    rw [e, hy] at h
    injection h with h
    injection h with _ h
    exact h1 h.symm
  · obtain ⟨ys, hy⟩ := hk.2 k e
    rw [hy] at h
    injection h with h
    injection h with _ h
    exact h2 h.symm
theorem cnP_ok {w : World} {p : Pt} (h : p.ok) : Cm.ok w ⟨cnP p, none, 0⟩ := ⟨⟨h, ⟨by show (0 : Int) ≤ 0; decide, by show (0 : Int) < _; decide⟩, IsB.nil⟩, RdN.nil _ _ _, IsB.nil, Nat.le_refl _, Nat.zero_le _, Nat.zero_le _⟩

set_option maxRecDepth 20000 in
set_option maxHeartbeats 4000000 in
theorem tableFull_walk (m : Cm) (n : Int) (w : World) (hm' : m.ok w ∧ m.k ≤ 140737488351232) (hn : 0 ≤ n ∧ n ≤ 65535) :
    Calls Try.prog 5 #[.agg (cc m).toArray, .int .u16 n] w fun e w' => e = .returned (.bool true) ∧ Below w.heap.size w w' := by
  obtain ⟨hm, hmk⟩ := hm'
  have f1 : (w.alloc (.cells (cc m).toArray 57)).heap[w.heap.size]? = some (.cells (cc m).toArray 57 (0, 0)) := heap_alloc_new w _
  have b1 : Below w.heap.size w (w.alloc (.cells (cc m).toArray 57)) := (Below.refl _ _).alloc (Nat.le_refl _) _
  have hs1 : (w.alloc (.cells (cc m).toArray 57)).heap.size = w.heap.size + 1 := by simp
  have NW := new_m (w.alloc (.cells (cc m).toArray 57))
  rw [hs1] at NW
  have H0 := Lib.hid (And.intro hm (And.intro f1 b1))
  clear hm f1 b1
  go_enter Try.func5, Try.ntmps5
  go_wp2_with (fail)
  refine NW.mono ?_
  rintro e w2 ⟨rfl, hT2, hb2⟩
  rw [← hs1] at hb2
  have F2 : FrS w w2 (w.heap.size + 1) none [] m := ⟨bThen H0.out.2.2 hb2, hT2, kept H0.out.2.1 hb2, H0.out.1⟩
  clear hT2 hb2 NW
  go_wp2_with (fail)
  go_loopw [6] (fun i wr => ∃ (k : Nat) (P : Option Addr) (ps : List (List Cn)), k ≤ 2000 ∧ i = .int .i64 k ∧ FrS w wr (w.heap.size + 1) P ps m ∧ ps.flatten.Perm (cnIs k)) (fun i _ => 2000 - (intOf i).toNat)
  case atStart => exact ⟨0, none, [], by omega, rfl, F2, List.Perm.refl _⟩
  case round =>
    clear F2
    obtain ⟨k, P, ps, hk, rfl, hs, hpm⟩ := hrel
    by_cases hlt : k < 2000
    · have d1 : decide ((k : Int) < 2000) = true := decide_eq_true (by omega)
      have hw : IntKind.u16.wrap (k : Int) = (k : Int) := by simp [IntKind.wrap, IntKind.bits, IntKind.signed]; omega
      have hpo : (ptN k 7).ok := ptN_ok (by omega) (by omega)
      have hokk := cc_ok (m := ⟨cnI k, none, 0⟩) hpo
      have hokk2 : okAgg (cc ⟨⟨ptN (k : Int) 7, 1, false, []⟩, none, 0⟩).toArray 37 := hokk
      have F1 := hs.below (slot_self wr (.cells (cc zm).toArray 57) (cc ⟨cnI k, none, 0⟩).toArray)
      have hcm : Cm.ok ((wr.alloc (.cells (cc zm).toArray 57)).setRow wr.heap.size (cc ⟨cnI k, none, 0⟩).toArray) ⟨cnI k, none, 0⟩ := ⟨⟨hpo, ⟨by show (0 : Int) ≤ 1; decide, by show (1 : Int) < _; decide⟩, IsB.nil⟩, RdN.nil _ _ _, IsB.nil, Nat.le_refl _, Nat.zero_le _, Nat.zero_le _⟩
      have PU := put_m F1.tb ⟨cnI k, none, 0⟩ hcm (fun _ e => by cases e)
      obtain ⟨g1, g2⟩ := full_next hpm (k := k) hlt
      rw [show (⟨cnI k, none, 0⟩ : Cm).c = cnI k from rfl, g1] at PU
      have X := Lib.hid (And.intro F1 g2)
      have PU := Lib.hid PU
      clear hs hpm F1 hcm g1 g2
      go_wp2_with (fail)
      refine PU.out.mono ?_
      rintro e w3 ⟨rfl, P3, hT3, hk3, ho3⟩
      have Y := Lib.hid (X.out.1.only ho3 hT3)
      clear hT3 hk3 ho3
      go_wp2_with (fail)
      go_roundw
      case rel => exact ⟨k + 1, P3, _, by omega, by go_num, Y.out, X.out.2⟩
      case measure => simp [intOf]; omega
    · obtain rfl : k = 2000 := by omega
      obtain ⟨q, hq⟩ : ∃ q : Nat, n % 2000 = q := ⟨(n % 2000).toNat, by omega⟩
      have hq2 : q < 2000 := by omega
      have hrem : n.tmod 2000 = (q : Int) := by rw [Int.tmod_eq_emod_of_nonneg hn.1]; exact hq
      have hpo : (ptN q 7).ok := ptN_ok (by omega) (by omega)
      have hokp := pc_ok hpo
      have sl := below_slot (Below.refl wr.heap.size wr) (Nat.le_refl _) (.cells (pc zeroPt).toArray 54) (pc (ptN q 7)).toArray
      have F1 := hs.below sl
      have x1 := setRow_heap _ _ _ (pc (ptN q 7)).toArray _ _ (heap_alloc_new wr (.cells (pc zeroPt).toArray 54))
      have hm8 : (upH m.c 8).ok := upH_ok H0.out.1.c (by omega)
      have z1 := (row_cells F1.box 33).2
      have y1 := (row_cells F1.box 33).1
      rw [show (cc m).toArray[33]? = some (.int .u32 m.c.p.h) from by
        have h1 := pc_h H0.out.1.c.p
        have h2 := pc_length H0.out.1.c.p
        unfold cc
        rw [List.getElem?_toArray, List.getElem?_append_left (by omega)]
        exact h1] at y1
      have hbx : wr.heap.size ≠ w.heap.size := by have := (Array.getElem?_eq_some_iff.1 hs.box).1; omega
      have F8 : FrS w (((wr.alloc (.cells (pc zeroPt).toArray 54)).setRow wr.heap.size (pc (ptN q 7)).toArray).setCell ⟨w.heap.size, 33, none⟩ (.int .u32 8)) (w.heap.size + 1) P ps ⟨upH m.c 8, m.A, m.k⟩ :=
        ⟨F1.bel.setCell (p := ⟨w.heap.size, 33, none⟩) (Nat.le_refl _) _, F1.tb.upper (fun k h1 h2 => Below.heap_setCell _ _ _ _ (by show k ≠ w.heap.size; omega)), height_row H0.out.1.c.p 8 F1.box, ⟨hm8, H0.out.1.arg⟩⟩
      have x8 := (Below.heap_setCell ((wr.alloc (.cells (pc zeroPt).toArray 54)).setRow wr.heap.size (pc (ptN q 7)).toArray) ⟨w.heap.size, 33, none⟩ (.int .u32 8) wr.heap.size (by show wr.heap.size ≠ w.heap.size; exact hbx)).trans x1
      obtain ⟨u8, v8⟩ := F8.has.1
      have PU1 := put_m F8.tb ⟨upH m.c 8, m.A, m.k⟩ F8.ok F8.far
      have hf8 : findF ps (upH m.c 8).p = none := findF_perm hpm fun c hc => by
        obtain ⟨i, hi, rfl⟩ := cnIs_mem hc
        intro e
        have := congrArg Pt.h e
        simp [cnI, ptN, upH] at this
      have hl8 : ps.flatten.length = 2000 := by rw [hpm.length_eq, cnIs_len]
      have X := Lib.hid (And.intro F8 (And.intro x8 (And.intro hpm (And.intro hf8 hl8))))
      clear hs hpm sl F1 x1 F8 x8 hf8 hl8
      cases hmay : mayO (upH m.c 8).v (upH m.c 8).l with
      | false =>
        rw [putM_arg hmay] at PU1
        have HM := Lib.hid hmay
        have PU1 := Lib.hid PU1
        clear hmay
        go_wp2_with (fail)
        refine PU1.out.mono ?_
        rintro e w3 ⟨rfl, P3, hT3, hk3, ho3⟩
        have F3 := X.out.1.only ho3 hT3
        obtain ⟨u3, v3⟩ := F3.has.1
        have MY := rmay06_any ⟨upH m.c 8, m.A, m.k⟩ w3 F3.ok
        rw [show mayO (⟨upH m.c 8, m.A, m.k⟩ : Cm).c.v (⟨upH m.c 8, m.A, m.k⟩ : Cm).c.l = false from HM.out] at MY
        have B3 := Lib.hid F3.bel
        clear F3 hT3 hk3 ho3
        go_wp2_with (fail)
        refine MY.mono ?_
        rintro e w4 ⟨rfl, hb4⟩
        have B4 := Lib.hid (bThen B3.out hb4)
        clear hb4
        go_wp2_with (fail)
        refine (works24_any w4).mono ?_
        rintro e w5 ⟨rfl, hb5⟩
        have B5 := Lib.hid (bThen B4.out hb5)
        clear hb5
        go_wp2_with (fail)
        go_ret
        exact ⟨rfl, B5.out⟩
      | true =>
        rw [putM_limit hmay X.out.2.2.2.1 (by rw [X.out.2.2.2.2]; exact Nat.le_refl _)] at PU1
        have HM := Lib.hid hmay
        have PU1 := Lib.hid PU1
        clear hmay
        go_wp2_with (fail)
        refine PU1.out.mono ?_
        rintro e w3 ⟨rfl, P3, hT3, hk3, ho3⟩
        have F3 := X.out.1.only ho3 hT3
        obtain ⟨u3, v3⟩ := F3.has.1
        have x3 := ho3.box X.out.1.tb.kinds X.out.2.1 (by decide) (by decide)
        have MY := rmay06_any ⟨upH m.c 8, m.A, m.k⟩ w3 F3.ok
        rw [show mayO (⟨upH m.c 8, m.A, m.k⟩ : Cm).c.v (⟨upH m.c 8, m.A, m.k⟩ : Cm).c.l = true from HM.out] at MY
        have X3 := Lib.hid (And.intro F3 x3)
        clear F3 x3 hT3 hk3 ho3
        go_wp2_with (fail)
        refine MY.mono ?_
        rintro e w4 ⟨rfl, hb4⟩
        have F4 := X3.out.1.below hb4
        have x4 := kept X3.out.2 hb4
        obtain ⟨u4, v4⟩ := row_has hpo x4
        have hfq : findF ps (ptN q 7) = some (cnI q) := findF_of F4.tb.rise (X.out.2.2.1.symm.subset (cnIs_in hq2)) rfl
        have hokc := cc_ok (m := ⟨cnP (ptN q 7), none, 0⟩) hpo
        have PU2 := put_m F4.tb ⟨cnP (ptN q 7), none, 0⟩ (cnP_ok hpo) (fun _ e => by cases e)
        rw [putM_twice (d := cnI q) (by show mayO 0 [] = true; decide) hfq] at PU2
        have X4 := Lib.hid (And.intro F4 (And.intro x4 hfq))
        have PU2 := Lib.hid PU2
        clear F4 x4 hfq
        go_wp2_with (fail)
        refine PU2.out.mono ?_
        rintro e w5 ⟨rfl, P5, hT5, hk5, ho5⟩
        have F5 := X4.out.1.only ho5 hT5
        have x5 := ho5.box X4.out.1.tb.kinds X4.out.2.1 (by decide) (by decide)
        obtain ⟨u5, v5⟩ := row_has hpo x5
        have TK := take_m F5.tb (ptN q 7) hpo
        rw [takeM_some X4.out.2.2] at TK
        have hpt := takeF2_perm F5.tb.rise X4.out.2.2
        have X5 := Lib.hid (And.intro F5 (And.intro x5 hpt))
        clear F5 x5 hpt hT5 hk5 ho5 u4 v4
        go_wp2_with (fail)
        refine TK.mono ?_
        rintro e w6 ⟨A6, k6, rfl, ho6l, P6, hT6, hk6, ho6⟩
        have F6 := X5.out.1.only ho6 hT6
        have x6 := ho6.box X5.out.1.tb.kinds X5.out.2.1 (by decide) (by decide)
        have hok6 := cc_ok (m := ⟨cnI q, A6, k6⟩) hpo
        have sl6 := slot_self w6 (.cells (cc zm).toArray 57) (cc ⟨cnI q, A6, k6⟩).toArray
        have F7 := F6.below sl6
        have x7 := kept x6 sl6
        have y7 := both_row w6 (cc zm).toArray 57 (cc ⟨cnI q, A6, k6⟩).toArray
        have hf7 : findF (takeF2 ps (ptN q 7)) (upH m.c 8).p = none := findF_none fun c hc => by
          have h1 := X.out.2.2.1.subset (X5.out.2.2.subset (List.mem_cons_of_mem _ hc))
          obtain ⟨i, hi, rfl⟩ := cnIs_mem h1
          intro e
          have := congrArg Pt.h e
          simp [cnI, ptN, upH] at this
        have hl7 : (takeF2 ps (ptN q 7)).flatten.length = 1999 := by
          have := X5.out.2.2.length_eq
          rw [List.length_cons, X.out.2.2.2.2] at this
          omega
        have PU3 := put_m F7.tb ⟨upH m.c 8, m.A, m.k⟩ F7.ok F7.far
        rw [putM_ok HM.out hf7 (by omega)] at PU3
        have hl8 : (putF2 (takeF2 ps (ptN q 7)) (upH m.c 8)).flatten.length = 2000 := by
          rw [(putF2_perm _ _).length_eq, List.length_cons, hl7]
        obtain ⟨u7, v7⟩ := F7.has.1
        have X7 := Lib.hid (And.intro F7 (And.intro x7 (And.intro y7 hl8)))
        have PU3 := Lib.hid PU3
        clear F6 x6 sl6 F7 x7 y7 hf7 hl7 hl8 hT6 hk6 ho6 ho6l u5 v5 TK
        go_wp2_with (fail)
        refine PU3.out.mono ?_
        rintro e w8 ⟨rfl, P8, hT8, hk8, ho8⟩
        have F8 := X7.out.1.only ho8 hT8
        have x8 := ho8.box X7.out.1.tb.kinds X7.out.2.1 (by decide) (by decide)
        have y8 := ho8.box X7.out.1.tb.kinds X7.out.2.2.1 (by decide) (by decide)
        obtain ⟨u8', v8'⟩ := row_has hpo x8
        obtain ⟨u9, v9⟩ := (coin_has (m := ⟨cnI q, A6, k6⟩) hpo y8).2
        have LN := len_m F8.tb
        rw [X7.out.2.2.2] at LN
        have oP : okPts (pc (cnI q).p).toArray (pc (ptN q 7)).toArray := ⟨ptN q 7, ptN q 7, hpo, hpo, rfl, rfl⟩
        have eP : eqB (pc (cnI q).p).toArray (pc (ptN q 7)).toArray = true := by rw [show (cnI q).p = ptN q 7 from rfl, eqB_pc hpo hpo]; exact decide_eq_true rfl
        have B8 := Lib.hid F8.bel
        clear F8 x8 y8 hT8 hk8 ho8 u7 v7
        go_wp2_with (fail)
        refine LN.mono ?_
        rintro e w9 ⟨rfl, hw9⟩
        obtain rfl : w8 = w9 := hw9.symm
        go_wp2_with (fail)
        refine (works24_any w8).mono ?_
        rintro e w10 ⟨rfl, hb10⟩
        have B10 := Lib.hid (bThen B8.out hb10)
        clear hb10
        go_wp2_with (fail)
        go_ret
        exact ⟨rfl, B10.out⟩
section
open Go.ChangeShapes Go.WideShapes Go.Joins
variable {H : Type} {enc : TypeId × Value → H} {W : World} {base : Nat} {v : Value} {d : DataW H} {ps : List MemPlace}
theorem arg_u16 (hval : Value.okWide Try.prog W .any base 51 v) (h : DataW.Trod enc Try.prog W 0 (fun _ => true) true 51 v d ps) (hs : Small Try.prog 51 d) :
    ∃ a, v = .int .u16 a ∧ (0 ≤ a ∧ a ≤ 65535) := by
  obtain ⟨a, rfl, rfl, rfl, hw⟩ := open_int Try.underlying51 hval h
  refine ⟨a, rfl, ?_⟩
  have h1 : IntKind.u16.min = 0 := rfl
  have h2 : IntKind.u16.max = 65535 := rfl
  simp only [Lit.wf, Bool.and_eq_true, decide_eq_true_eq] at hw
  omega
end
end Go.Proofs.Ytofclanljhfkiaa
