/- Joined texts: TbH. -/
import Derived.Test.YtofclanljhfkiaaM16
/- TableFresh: what is handed in stays, what is answered is new memory. -/
namespace Go.Proofs.Ytofclanljhfkiaa
open Go.RowKit Go.Proofs En Co
set_option linter.unusedVariables false
set_option linter.unusedSimpArgs false
set_option maxRecDepth 20000
attribute [local go_sem ↓] ld_point_eq ld_coin_eq ld_hash_eq st_point_eq st_coin_eq bd_point_eq bd_coin_eq eq_point_eq ne_point_eq al_coin_eq al_point_eq bs_coin_eq
attribute [local go_sem] ld_point_run ld_coin_run ld_hash_run st_point_run st_coin_run bd_point_zero bd_coin_zero bd_point_of bd_coin_of hash_at rowIs_34 rowIs_37 rowIs_both hasAt_both cellsAt_both eq_point_run ne_point_run guard_pt al_coin_run al_point_run al_coin_row al_point_row nil_bytes nil_coins bs_coin_run

/-- a row of bytes is spoiled, and nothing else -/
theorem spoilO_any (g n c base : Nat) (xs : List Int) (x : Int) (w : World) (ho : OwnN w base 5 .u8 (some ⟨g, 0, none⟩) n c xs) (hc : c ≤ 9223372036854775807) :
    Calls Try.prog 40 #[.slice (some ⟨g, 0, none⟩) n c, .int .u8 x] w fun e w' => e = .returned (.tuple #[]) ∧ Only w w' g none := by
  have hnc := Own.len_cap ho
  have I := Lib.hid ho
  go_enter Try.func40, Try.ntmps40
  go_wp2_with (fail)
  go_loopw [5] (fun i wr => ∃ k : Nat, k ≤ c ∧ i = .int .i64 k ∧ (∃ ys, OwnN wr base 5 .u8 (some ⟨g, 0, none⟩) n c ys) ∧ Only w wr g none) (fun i _ => c - (intOf i).toNat)
  case atStart => exact ⟨0, by omega, rfl, ⟨xs, I.out⟩, Only.refl _ _ _⟩
  case round =>
    obtain ⟨k, hk, rfl, ⟨ys, ho2⟩, hb⟩ := hrel
    by_cases hlt : k < c
    · obtain ⟨u, hcell, ⟨y, hy⟩, hf⟩ := Own.cap_cell ho2 k (by omega)
      subst hy
      clear hnc
      go_wp2_with (fail)
      go_roundw
      case rel => exact ⟨k + 1, by omega, by go_num, ⟨_, OwnN.set ho2 k _⟩, hb.setCell (.inl rfl) _⟩
      case measure => simp [intOf]; omega
    · obtain rfl : k = c := by omega
      go_wp2_with (fail)
      go_end0
      exact ⟨rfl, hb⟩
/-- a table behind a change to a row of bytes that is none of its locks -/
theorem Tab.lone {w w' : World} {base g np cp k : Nat} {P : Option Addr} {gs : List Pg} (h : Tab w base g P np cp gs) (ho : Only w w' k none) {xs : Array Value} (hk : w.heap[k]? = some (.cells xs 5 (0, 0))) (hne : ∀ z ∈ allC gs, blk z.A ≠ some k) : Tab w' base g P np cp gs := by
  have hrow : ∀ {e : TypeId} {size : Nat} {G : Value → Prop} {A : Option Addr} {n c : Nat} {cs : List Value}, Own w base e size G A n c cs → blk A ≠ some k → Own w' base e size G A n c cs := fun hq hq2 =>
    Own.keep hq fun i hi => ho.block i (Own.lt hq i hi).2 (fun e => hq2 (by rw [hi, e])) (fun e => by cases e)
  refine ⟨h.low, ?_, hrow h.pages (Own.ne_block h.pages hk (by decide)), fun x hx => ⟨⟨hrow (h.own x hx).1.row (Own.ne_block (h.own x hx).1.row hk (by decide)), fun m hm => ⟨((h.own x hx).1.ok m hm).1, hrow ((h.own x hx).1.ok m hm).2.1 (hne m (List.mem_flatMap.2 ⟨x, hx, hm⟩)), ((h.own x hx).1.ok m hm).2.2⟩, (h.own x hx).1.len⟩, (h.own x hx).2⟩, h.up, h.most⟩
  refine (ho.block g (Array.getElem?_eq_some_iff.1 h.row).1 (fun e => ?_) (fun e => by cases e)).trans h.row
  subst e
  rw [h.row] at hk
  injection hk with hk
  injection hk with _ hk
  exact absurd hk (by decide)

/-- the coin that came in, in its box; the table -/
structure FrS (w wr : World) (g : Nat) (P : Option Addr) (ps : List (List Cn)) (m : Cm) : Prop where
  bel : Below w.heap.size w wr
  tb : Tb wr w.heap.size g P ps
  box : wr.heap[w.heap.size]? = some (.cells (cc m).toArray 57 (0, 0))
  ok : m.ok wr
theorem FrS.below {w wr w2 : World} {g : Nat} {P : Option Addr} {ps : List (List Cn)} {m : Cm} (h : FrS w wr g P ps m) (hb : Below wr.heap.size wr w2) : FrS w w2 g P ps m :=
  ⟨bThen h.bel hb, h.tb.below hb, kept h.box hb, h.ok.below hb⟩
theorem FrS.has {w wr : World} {g : Nat} {P : Option Addr} {ps : List (List Cn)} {m : Cm} (h : FrS w wr g P ps m) : (hasAt wr w.heap.size 0 37 ∧ cellsAt wr w.heap.size 0 37 = (cc m).toArray) ∧ (hasAt wr w.heap.size 0 34 ∧ cellsAt wr w.heap.size 0 34 = (pc m.c.p).toArray) := coin_has h.ok.c.p h.box
theorem OwnP.one {w : World} {base : Nat} {B : Option Addr} {c : Nat} {hs : List Cm} {d : Cn} (h : OwnP w base B 1 c hs) (hd : cns hs = [d]) : ∃ k A l, B = some ⟨k, 0, none⟩ ∧ w.cell? ⟨k, 36, none⟩ = some (.slice A d.l.length l) ∧ OwnB w base A d.l.length l d.l ∧ 1 ≤ c := by
  have hl := h.len
  have hcap := (Own.len_cap h.row).1
  obtain ⟨z, rfl⟩ : ∃ z, hs = [z] := by
    match hs, hl with
    | [z], _ => exact ⟨z, rfl⟩
  have hz : z.c = d := by simpa [cns] using hd
  subst hz
  rcases h.row.2 with ⟨_, h0, _⟩ | ⟨k, cur, rfl, _⟩
  · cases h0
  · have hzo := h.ok z (List.mem_singleton.2 rfl)
    refine ⟨k, z.A, z.k, rfl, ?_, hzo.2.1, hcap⟩
    have := Own.cells h.row (ad := ⟨k, 0, none⟩) rfl 36 (.slice z.A z.c.l.length z.k) (by
      have := (cc_get hzo.1.p).2.2
      unfold pcs
      simpa [Cm.lk] using this)
    rw [add_new] at this
    exact this
theorem pageM_one (c : Cn) : pageM [[c]] 0 = ([c], 0) := by unfold pageM; simp
theorem putM_first {c : Cn} (h : mayO c.v c.l = true) : putM [] c = ([[c]], 0) := by
  unfold putM
  rw [if_pos h]
  rfl
theorem findF_one (c : Cn) : findF [[c]] c.p = some c := by unfold findF; simp
theorem getM_one (c : Cn) : getM [[c]] c.p = (c, 0) := by unfold getM; rw [findF_one]
theorem takeM_one (c : Cn) : takeM [[c]] c.p = ([], c, 0) := by
  unfold takeM
  rw [findF_one]
  simp [takeF2, lostF]

set_option maxRecDepth 20000 in
set_option maxHeartbeats 4000000 in
theorem tableFresh_walk (m : Cm) (w : World) (hm' : m.ok w ∧ m.k ≤ 140737488351232) :
    Calls Try.prog 9 #[.agg (cc m).toArray] w fun e w' => e = .returned (.bool true) ∧ Below w.heap.size w w' := by
  obtain ⟨hm, hmk⟩ := hm'
  have lm1 := hm.arg.cap
  have f1 : (w.alloc (.cells (cc m).toArray 57)).heap[w.heap.size]? = some (.cells (cc m).toArray 57 (0, 0)) := heap_alloc_new w _
  have b1 : Below w.heap.size w (w.alloc (.cells (cc m).toArray 57)) := (Below.refl _ _).alloc (Nat.le_refl _) _
  have hs1 : (w.alloc (.cells (cc m).toArray 57)).heap.size = w.heap.size + 1 := by simp
  have hokm := cc_ok hm.c.p
  have NW := new_any (w.alloc (.cells (cc m).toArray 57))
  rw [hs1] at NW
  have H0 := Lib.hid (And.intro hm (And.intro f1 b1))
  clear hm f1 b1
  go_enter Try.func9, Try.ntmps9
  go_wp2_with (fail)
  refine NW.mono ?_
  rintro e w2 ⟨rfl, hw2⟩
  have hb2 : Below (w.alloc (.cells (cc m).toArray 57)).heap.size (w.alloc (.cells (cc m).toArray 57)) w2 := by rw [hw2]; exact (Below.refl _ _).alloc (Nat.le_refl _) _
  have t2 : w2.heap[w.heap.size + 1]? = some (.cells #[.bool true, .slice none 0 0, .int .i64 0] 29 (0, 0)) := by rw [hw2, ← hs1]; exact heap_alloc_new _ _
  have f2 := kept H0.out.2.1 hb2
  have bl2 := bThen H0.out.2.2 hb2
  have sl := slot_self w2 (.cells (cc zm).toArray 57) (cc m).toArray
  have g3 := both_row w2 (cc zm).toArray 57 (cc m).toArray
  have f3 := kept f2 sl
  have t3 := kept t2 sl
  have bl3 := bThen bl2 sl
  obtain ⟨u2, v2⟩ := (coin_has H0.out.1.c.p f2).1
  have z3 := lock_cell H0.out.1.c.p f3
  have hz2 : w.heap.size + 1 < w2.heap.size := (Array.getElem?_eq_some_iff.1 t2).1
  have H3 := Lib.hid (And.intro f3 (And.intro g3 (And.intro bl3 t3)))
  clear hw2 f2 bl2 sl g3 f3 bl3 t3 t2 hb2
  go_wp2_with (fail)
  refine (wide_any inf_b m.A m.c.l.length m.k m.c.l _ (H0.out.1.below H3.out.2.2.1).arg.rd (by omega)).mono ?_
  rintro e w4 ⟨A2, rfl, ho4, hb4⟩
  obtain ⟨kA, rfl⟩ : ∃ kA, A2 = some ⟨kA, 0, none⟩ := by
    rcases ho4.2 with ⟨_, h, _⟩ | ⟨kA, cur, h, _⟩
    · omega
    · exact ⟨kA, h⟩
  have hkA := OwnN.lt ho4 kA rfl
  have hs3 : ((w2.alloc (.cells (cc zm).toArray 57)).setRow w2.heap.size (cc m).toArray).heap.size = w2.heap.size + 1 := by simp
  rw [hs3] at hkA
  have f4 := kept H3.out.1 hb4
  have g4 := kept H3.out.2.1 hb4
  have t4 := kept H3.out.2.2.2 hb4
  have bl4 := bThen H3.out.2.2.1 hb4
  have o5 := Own.setOther ho4 (p := ⟨w2.heap.size, 36, none⟩) (fun e => by have : kA = w2.heap.size := (by simpa [blk] using e); omega) (.slice (some ⟨kA, 0, none⟩) m.c.l.length (m.c.l.length + 3))
  have f5 := (Below.heap_setCell w4 ⟨w2.heap.size, 36, none⟩ (.slice (some ⟨kA, 0, none⟩) m.c.l.length (m.c.l.length + 3)) w.heap.size (by show w.heap.size ≠ w2.heap.size; omega)).trans f4
  have t5 := (Below.heap_setCell w4 ⟨w2.heap.size, 36, none⟩ (.slice (some ⟨kA, 0, none⟩) m.c.l.length (m.c.l.length + 3)) (w.heap.size + 1) (by show w.heap.size + 1 ≠ w2.heap.size; omega)).trans t4
  have g5 := lock_row H0.out.1.c.p (some ⟨kA, 0, none⟩) (m.c.l.length + 3) g4
  have bl5 := bl4.setCell (p := ⟨w2.heap.size, 36, none⟩) (by show w.heap.size ≤ w2.heap.size; omega) (.slice (some ⟨kA, 0, none⟩) m.c.l.length (m.c.l.length + 3))
  have hm5 : Cm.ok _ ⟨m.c, some ⟨kA, 0, none⟩, m.c.l.length + 3⟩ := ⟨H0.out.1.c, wide_arg o5 H0.out.1.c.l rfl (by show m.c.l.length ≤ _; omega)⟩
  have z4f := (row_cells g4 36).2
  have z4 := lock_cell H0.out.1.c.p g4
  have hT5 : Tab (w4.setCell ⟨w2.heap.size, 36, none⟩ (.slice (some ⟨kA, 0, none⟩) m.c.l.length (m.c.l.length + 3))) w.heap.size (w.heap.size + 1) none 0 0 [] := ⟨by omega, t5, Own.nil _ _ _ _ _, fun _ h => (by cases h), List.Pairwise.nil, Nat.zero_le _⟩
  obtain ⟨u5, v5⟩ := (coin_has (m := ⟨m.c, some ⟨kA, 0, none⟩, m.c.l.length + 3⟩) H0.out.1.c.p g5).1
  have PU := Lib.hid (putT_any hT5 ⟨m.c, some ⟨kA, 0, none⟩, m.c.l.length + 3⟩ hm5 (fun e => by have : kA = w.heap.size + 1 := (by simpa [blk] using e); omega))
  have H5 := Lib.hid (And.intro f5 (And.intro g5 (And.intro bl5 (And.intro o5 hT5))))
  clear ho4 hb4 f4 g4 t4 bl4 o5 f5 t5 g5 bl5 hm5 hT5 u2 v2
  go_wp2_with (fail)
  refine PU.out.mono ?_
  rintro e w6 (⟨h1, rfl, hb6⟩ | ⟨h1, pg, at_, is, hf, hcase⟩)
  · have f6 := kept H5.out.1 hb6
    have bl6 := bThen H5.out.2.2.1 hb6
    obtain ⟨u6, v6⟩ := (coin_has H0.out.1.c.p f6).1
    have MY := rmay06_any m w6 (H0.out.1.below bl6)
    rw [show mayO m.c.v m.c.l = false from h1] at MY
    have B6 := Lib.hid bl6
    clear bl6 f6 hb6 u5 v5
    go_wp2_with (fail)
    refine MY.mono ?_
    rintro e w7 ⟨rfl, hb7⟩
    have B7 := Lib.hid (bThen B6.out hb7)
    clear hb7
    go_wp2_with (fail)
    refine (works24_any w7).mono ?_
    rintro e w8 ⟨rfl, hb8⟩
    have B8 := Lib.hid (bThen B7.out hb8)
    clear hb8
    go_wp2_with (fail)
    go_ret
    exact ⟨rfl, B8.out⟩
  · have hfe : is = false ∧ pg = 0 ∧ at_ = 0 := by
      rcases hf with ⟨_, h2, h3, h4⟩ | ⟨x, hx, _⟩
      · exact ⟨h4, h2, h3⟩
      · simp at hx
    obtain ⟨rfl, rfl, rfl⟩ := hfe
    rcases hcase with ⟨h2, _⟩ | ⟨_, h2, _⟩ | ⟨_, _, rfl, P6, np6, cp6, gs6, hp6, hT6, hk6, ho6, hnl⟩
    · cases h2
    · exact absurd h2 (by decide)
    · have hkAn : blk (some (⟨kA, 0, none⟩ : Addr)) ≠ some (w.heap.size + 1) := fun e => by have : kA = w.heap.size + 1 := (by simpa [blk] using e); omega
      have f6 := ho6.heap H5.out.1 (by omega) (fun e => by cases e)
      have g6 := ho6.heap H5.out.2.1 (by omega) (fun e => by cases e)
      have o6 := Own.only H5.out.2.2.2.1 ho6 H5.out.2.2.2.2.kinds (by decide) (by decide)
      have bl6 := H5.out.2.2.1.trans (ho6.below (by have := H5.out.2.2.1.size; omega) (show w.heap.size ≤ w.heap.size + 1 by omega) (fun k hk => by cases hk))
      have rA := OwnN.rd o6
      have hm6 := H0.out.1.below bl6
      have z6 := lock_cell H0.out.1.c.p f6
      have y6 := lock_cell (m := ⟨m.c, some ⟨kA, 0, none⟩, m.c.l.length + 3⟩) H0.out.1.c.p g6
      have LF := left_any (some ⟨kA, 0, none⟩) m.c.l.length m.A m.k m.c.l w6 rA hm6.arg.rd (by have := hm6.arg.len; omega)
      have hps : pgsOf gs6 = [[m.c]] := hp6
      have hnl6 : ∀ z ∈ allC gs6, blk z.A ≠ some kA := by
        intro z hz
        rcases hnl z hz with hz | hz
        · cases hz
        · intro e
          have h9 := hz kA e
          have h8 : kA < (w4.setCell ⟨w2.heap.size, 36, none⟩ (.slice (some ⟨kA, 0, none⟩) m.c.l.length (m.c.l.length + 3))).heap.size := by simpa using hkA.2
          omega
      have H6 := Lib.hid (And.intro f6 (And.intro g6 (And.intro o6 (And.intro bl6 (And.intro hT6 (And.intro hps hnl6))))))
      clear f6 g6 o6 bl6 hT6 hps hnl6 hnl hp6 hk6 ho6 rA hm6 u5 v5
      go_wp2_with (fail)
      refine LF.mono ?_
      rintro e w7 ⟨rfl, hb7⟩
      have f7 := kept H6.out.1 hb7
      have g7 := kept H6.out.2.1 hb7
      have o7 := Own.below H6.out.2.2.1 hb7
      have y7 := lock_cell (m := ⟨m.c, some ⟨kA, 0, none⟩, m.c.l.length + 3⟩) H0.out.1.c.p g7
      have SO := spoilO_any kA m.c.l.length (m.c.l.length + 3) _ m.c.l 1 w7 (by
        have := Own.short o7 (k := m.c.l.length) (by omega)
        unfold OwnN ns at *
        rw [Nat.mul_one, List.map_append, List.take_append_of_le_length (by simp), List.take_of_length_le (by simp)] at this
        exact this) (by omega)
      have H7 := Lib.hid (And.intro f7 (And.intro o7 hb7))
      clear f7 g7 o7 hb7 z6 y6 LF
      go_wp2_with (fail)
      refine SO.mono ?_
      rintro e w8 ⟨rfl, ho8⟩
      obtain ⟨xsA, hxA⟩ : ∃ xs, w7.heap[kA]? = some (.cells xs 5 (0, 0)) := by
        rcases H7.out.2.1.2 with ⟨h, _⟩ | ⟨k, cur, h, _, h4, _⟩
        · cases h
        · cases h
          exact ⟨cur, h4⟩
      have T8 := (H6.out.2.2.2.2.1.below H7.out.2.2).lone ho8 hxA H6.out.2.2.2.2.2.2
      have f8 := ho8.heap H7.out.1 (by omega) (fun e => by cases e)
      have bl7 := bThen H6.out.2.2.2.1 H7.out.2.2
      have bl8 := bl7.trans (ho8.below bl7.size (show w.heap.size ≤ kA by omega) (fun k hk => by cases hk))
      have F8 : FrS w w8 (w.heap.size + 1) P6 [[m.c]] m := ⟨bl8, ⟨_, _, _, T8, H6.out.2.2.2.2.2.1⟩, f8, H0.out.1.below bl8⟩
      have F8 := Lib.hid F8
      clear T8 f8 bl7 bl8 ho8 y7 SO
      have GT9 := get_m F8.out.tb m.c.p H0.out.1.c.p
      rw [getM_one] at GT9
      obtain ⟨u9, v9⟩ := F8.out.has.2
      go_wp2_with (fail)
      refine GT9.mono ?_
      rintro e w9 ⟨A9, k9, rfl, ho9, hb9⟩
      have ok9 := cc_ok (m := ⟨m.c, A9, k9⟩) H0.out.1.c.p
      have sl9 := slot_self w9 (.cells (cc zm).toArray 57) (cc ⟨m.c, A9, k9⟩).toArray
      have bx9 := both_row w9 (cc zm).toArray 57 (cc ⟨m.c, A9, k9⟩).toArray
      have bs9 := bThen hb9 sl9
      have F9 := F8.out.below bs9
      have oo9 := OwnN.below ho9 sl9
      have cm9 : Cm.ok _ ⟨m.c, A9, k9⟩ := ⟨H0.out.1.c, oo9.rd, H0.out.1.c.l, (Own.len_cap oo9).1, (Own.len_cap oo9).2, by have := H0.out.1.arg.len; show m.c.l.length ≤ _; omega⟩
      have RS9 := rsame06_any ⟨m.c, A9, k9⟩ m _ cm9 F9.ok
      rw [show decide ((⟨m.c, A9, k9⟩ : Cm).c = m.c) = true from decide_eq_true rfl] at RS9
      have X9 := Lib.hid (And.intro F9 (And.intro bx9 (And.intro oo9 bs9)))
      obtain ⟨x9, y9⟩ := F9.has.1
      clear F9 bx9 oo9 bs9 sl9 ho9 hb9 cm9 u9 v9 GT9
      go_wp2_with (fail)
      refine RS9.mono ?_
      rintro e w10 ⟨rfl, hb10⟩
      have z10 := lock_cell (m := ⟨m.c, A9, k9⟩) H0.out.1.c.p (kept X9.out.2.1 hb10)
      have hz10 := hb10.size
      have hz9 := X9.out.2.2.2.size
      have oc := Own.len_cap X9.out.2.2.1
      have SP := spoil_any A9 _ k9 w8.heap.size m.c.l 1 w10 (OwnN.below X9.out.2.2.1 hb10) (by omega) oc.2
      have B10 := Lib.hid (bThen X9.out.2.2.2 hb10)
      clear hb10 x9 y9 RS9
      go_wp2_with (fail)
      refine SP.mono ?_
      rintro e w12 ⟨rfl, hb12, _⟩
      have F12 := Lib.hid (F8.out.below (B10.out.trans hb12))
      have hz12 := (B10.out.trans hb12).size
      clear hb12 z10 SP
      have AL := all_m F12.out.tb
      rw [show ([[m.c]] : List (List Cn)).flatten = [m.c] from rfl, show [m.c].length = 1 from rfl] at AL
      go_wp2_with (fail)
      refine AL.mono ?_
      rintro e w13 ⟨A13, d13, hs13, rfl, hc13, ho13, hb13⟩
      obtain ⟨k13, B13, l13, rfl, z13, oo13, hd13⟩ := ho13.one hc13
      have SP := spoil_any B13 _ l13 w12.heap.size m.c.l 1 w13 oo13 hb13.size (Own.len_cap oo13).2
      have B13b := Lib.hid hb13
      clear ho13 oo13 hb13 AL hc13
      go_wp2_with (fail)
      refine SP.mono ?_
      rintro e w14 ⟨rfl, hb14, _⟩
      have F14 := Lib.hid (F12.out.below (B13b.out.trans hb14))
      clear hb14 z13 SP
      have PGE := page_m F14.out.tb 0 (by omega)
      rw [pageM_one] at PGE
      simp only [List.length_singleton] at PGE
      go_wp2_with (fail)
      refine PGE.mono ?_
      rintro e w15 ⟨A15, d15, hs15, rfl, hc15, ho15, hb15⟩
      obtain ⟨k15, B15, l15, rfl, z15, oo15, hd15⟩ := ho15.one hc15
      have SP := spoil_any B15 _ l15 w14.heap.size m.c.l 1 w15 oo15 hb15.size (Own.len_cap oo15).2
      have B15b := Lib.hid hb15
      clear ho15 oo15 hb15 PGE hc15
      go_wp2_with (fail)
      refine SP.mono ?_
      rintro e w16 ⟨rfl, hb16, _⟩
      have F16 := Lib.hid (F14.out.below (B15b.out.trans hb16))
      clear hb16 z15 SP
      have CP := copy_m F16.out.tb
      go_wp2_with (fail)
      refine CP.mono ?_
      rintro e w17 ⟨g17, P17, rfl, hT17, hb17⟩
      have F17 := F16.out.below hb17
      obtain ⟨u17, v17⟩ := F17.has.2
      have TK := take_m hT17 m.c.p H0.out.1.c.p
      rw [takeM_one] at TK
      have H17 := Lib.hid (And.intro hT17 hb17)
      clear F17 hT17 hb17 CP
      go_wp2_with (fail)
      refine TK.mono ?_
      rintro e w18 ⟨A18, k18, rfl, oo18, P18, hT18, hk18, ho18⟩
      have ok18 := cc_ok (m := ⟨m.c, A18, k18⟩) H0.out.1.c.p
      have sl18 := slot_self w18 (.cells (cc zm).toArray 57) (cc ⟨m.c, A18, k18⟩).toArray
      have bx18 := both_row w18 (cc zm).toArray 57 (cc ⟨m.c, A18, k18⟩).toArray
      have b18 := H17.out.2.trans (H17.out.1.frame ho18)
      have b18s := b18.trans (sl18.mono b18.size)
      have z18 := lock_cell (m := ⟨m.c, A18, k18⟩) H0.out.1.c.p bx18
      have SP := spoil_any A18 _ k18 w16.heap.size m.c.l 1 _ (OwnN.below oo18 sl18) b18s.size (Own.len_cap oo18).2
      have H18 := Lib.hid b18s
      clear oo18 hT18 hk18 ho18 sl18 bx18 b18 b18s TK u17 v17
      go_wp2_with (fail)
      refine SP.mono ?_
      rintro e w20 ⟨rfl, hb20, _⟩
      have F20 := Lib.hid (F16.out.below (H18.out.trans hb20))
      clear hb20 z18 SP
      have GT21 := get_m F20.out.tb m.c.p H0.out.1.c.p
      rw [getM_one] at GT21
      obtain ⟨u21, v21⟩ := F20.out.has.2
      go_wp2_with (fail)
      refine GT21.mono ?_
      rintro e w21 ⟨A21, k21, rfl, ho21, hb21⟩
      have ok21 := cc_ok (m := ⟨m.c, A21, k21⟩) H0.out.1.c.p
      have sl21 := slot_self w21 (.cells (cc zm).toArray 57) (cc ⟨m.c, A21, k21⟩).toArray
      have bx21 := both_row w21 (cc zm).toArray 57 (cc ⟨m.c, A21, k21⟩).toArray
      have bs21 := bThen hb21 sl21
      have F21 := F20.out.below bs21
      have oo21 := OwnN.below ho21 sl21
      have cm21 : Cm.ok _ ⟨m.c, A21, k21⟩ := ⟨H0.out.1.c, oo21.rd, H0.out.1.c.l, (Own.len_cap oo21).1, (Own.len_cap oo21).2, by have := H0.out.1.arg.len; show m.c.l.length ≤ _; omega⟩
      have RS21 := rsame06_any ⟨m.c, A21, k21⟩ m _ cm21 F21.ok
      rw [show decide ((⟨m.c, A21, k21⟩ : Cm).c = m.c) = true from decide_eq_true rfl] at RS21
      have X21 := Lib.hid (And.intro F21 (And.intro bx21 (And.intro oo21 bs21)))
      obtain ⟨x21, y21⟩ := F21.has.1
      clear F21 bx21 oo21 bs21 sl21 ho21 hb21 cm21 u21 v21 GT21
      go_wp2_with (fail)
      refine RS21.mono ?_
      rintro e w22 ⟨rfl, hb22⟩
      have B22 := Lib.hid (bThen X21.out.1.bel hb22)
      clear hb22 x21 y21 RS21
      go_wp2_with (fail)
      refine (works24_any w22).mono ?_
      rintro e w23 ⟨rfl, hb23⟩
      have B23 := Lib.hid (bThen B22.out hb23)
      clear hb23
      go_wp2_with (fail)
      go_ret
      exact ⟨rfl, B23.out⟩
end Go.Proofs.Ytofclanljhfkiaa
