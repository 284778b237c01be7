/- Joined texts: UnY, UnZ, UoA, UoB. -/
import Derived.Test.YtofclanljhfkiaaM23
import Derived.Test.YtofclanljhfkiaaM22
import Derived.Test.YtofclanljhfkiaaM24
import Derived.Test.YtofclanljhfkiaaM26
import Derived.Test.YtofclanljhfkiaaM25
import Derived.Test.YtofclanljhfkiaaM28
import Derived.Test.YtofclanljhfkiaaM30
/- The reference's Do: what it holds of memory between two steps. -/
namespace Go.Proofs.Ytofclanljhfkiaa
open Go.RowKit Go.Proofs En Co
set_option linter.unusedVariables false
set_option linter.unusedSimpArgs false
set_option maxRecDepth 20000

/-- one block turns, from base on: a row of points, an undo's box, or a row of coins that no page has -/
structure Turn (w w' : World) (base : Nat) (row : Option Nat) (Y : Nat → Prop) : Prop where
  size : w.heap.size ≤ w'.heap.size
  same : ∀ k, k < w.heap.size → row ≠ some k → w'.heap[k]? = w.heap[k]?
  kind : ∀ b, row = some b → base ≤ b ∧ ∃ xs T0, w.heap[b]? = some (.cells xs T0 (0, 0)) ∧ (T0 = 54 ∨ T0 = 25 ∨ (T0 = 57 ∧ ∀ k, Y k → k ≠ b))
section
variable {w w' : World} {base b2 g : Nat} {row : Option Nat} {Y : Nat → Prop} {Q A : Option Addr} {ps : List (List Cn)} {x : Pg} {m : Cm}
theorem Turn.ne (h : Turn w w' base row Y) {k : Nat} {xs : Array Value} {T : TypeId} (hk : w.heap[k]? = some (.cells xs T (0, 0))) (h1 : T ≠ 54) (h2 : T ≠ 25) (h3 : T ≠ 57) : row ≠ some k := fun e => by
  obtain ⟨_, ys, T0, h4, h5⟩ := h.kind k e
  rw [hk] at h4
  injection h4 with h4
  injection h4 with _ h4
  rcases h5 with h5 | h5 | ⟨h5, _⟩
  · exact h1 (h4.trans h5)
  · exact h2 (h4.trans h5)
  · exact h3 (h4.trans h5)
theorem Turn.lock (h : Turn w w' base row Y) (hf : FirmK w base A) : ∀ k, blk A = some k → row ≠ some k := fun k hk e => by
  obtain ⟨h1, h2⟩ := hf k hk
  rcases h2 with h2 | ⟨xs, T, h3, _, _, _, h4, h5, h6⟩
  · have := (h.kind k e).1; omega
  · exact h.ne h3 h4 h5 h6 e
theorem Turn.rowY (h : Turn w w' base row Y) (hf : Firm w base A) (hY : ∀ k, blk A = some k → Y k) : ∀ k, blk A = some k → row ≠ some k := fun k hk e => by
  obtain ⟨h1, h2⟩ := hf k hk
  obtain ⟨hb, ys, T0, h4, h5⟩ := h.kind k e
  rcases h5 with h5 | h5 | ⟨h5, h6⟩
  · rcases h2 with h2 | ⟨xs, T, h3, _, _, _, h7, h8⟩
    · omega
    · rw [h3] at h4; injection h4 with h4; injection h4 with _ h4; exact h7 (h4.trans h5)
  · rcases h2 with h2 | ⟨xs, T, h3, _, _, _, h7, h8⟩
    · omega
    · rw [h3] at h4; injection h4 with h4; injection h4 with _ h4; exact h8 (h4.trans h5)
  · exact h6 k (hY k hk) rfl
theorem Firm.turn (hf : Firm w base A) (h : Turn w w' base row Y) (hne : ∀ k, blk A = some k → row ≠ some k) : Firm w' base A := fun k hk => by
  obtain ⟨h1, h2⟩ := hf k hk
  have e := h.same k h1 (hne k hk)
  refine ⟨Nat.lt_of_lt_of_le h1 h.size, ?_⟩
  rcases h2 with h2 | ⟨xs, T, h3, h4⟩
  · exact .inl h2
  · exact .inr ⟨xs, T, e.trans h3, h4⟩
theorem FirmK.turn (hf : FirmK w base A) (h : Turn w w' base row Y) : FirmK w' base A := fun k hk => by
  obtain ⟨h1, h2⟩ := hf k hk
  have e := h.same k h1 (h.lock hf k hk)
  refine ⟨Nat.lt_of_lt_of_le h1 h.size, ?_⟩
  rcases h2 with h2 | ⟨xs, T, h3, h4⟩
  · exact .inl h2
  · exact .inr ⟨xs, T, e.trans h3, h4⟩
theorem Rd.turn {size n : Nat} {cs : List Value} (hr : Rd w size A n cs) (h : Turn w w' base row Y) (hne : 0 < n → ∀ k, blk A = some k → row ≠ some k) : Rd w' size A n cs := by
  refine ⟨hr.1, fun h0 => ?_⟩
  obtain ⟨ad, e, hb, hc⟩ := hr.2 h0
  refine ⟨ad, e, Nat.lt_of_lt_of_le hb h.size, fun j u hu => ?_⟩
  rw [← hc j u hu]
  exact World.cell?_of_block (by rw [block_add]; exact h.same _ hb (hne h0 ad.block (by rw [e]; rfl)))
theorem Cm.turn (hm : m.ok w) (hf : FirmL w base m) (h : Turn w w' base row Y) : m.ok w' :=
  ⟨hm.c, Rd.turn hm.arg.rd h (fun h0 => h.lock (hf h0)), hm.arg.isB, hm.arg.cap, hm.arg.top, hm.arg.len⟩
theorem FirmP.turn (hx : FirmP w base x) (h : Turn w w' base row Y) (hY : ∀ k, blk x.A = some k → Y k) : FirmP w' base x :=
  ⟨⟨Rd.turn hx.arg.rd h (fun _ => h.rowY hx.row hY), fun m hm => Cm.turn (hx.arg.ok m hm) (hx.lock m hm) h, hx.arg.len, hx.arg.cap, hx.arg.max⟩, hx.row.turn h (h.rowY hx.row hY), fun m hm h0 => (hx.lock m hm h0).turn h⟩
theorem RTY.turn (hr : RTY w base g Q ps Y) (h : Turn w w' base row Y) : RTY w' base g Q ps Y := by
  obtain ⟨np, cp, gs, h1, h2, h3, h4, h5, h6, h7, h8⟩ := hr.ex
  have hQ : ∀ k, blk Q = some k → row ≠ some k := fun k hk => by
    obtain ⟨_, _, xs, h9⟩ := h7 k hk
    exact h.ne h9 (by decide) (by decide) (by decide)
  refine ⟨hr.low, np, cp, gs, ?_, Rd.turn h2 h (fun _ => hQ), h3, h4, fun x hx => (h5 x hx).turn h (h8 x hx), h6, fun k hk => ?_, h8⟩
  · exact (h.same g (Array.getElem?_eq_some_iff.1 h1).1 (h.ne h1 (by decide) (by decide) (by decide))).trans h1
  · obtain ⟨k1, k2, xs, k3⟩ := h7 k hk
    exact ⟨k1, Nat.lt_of_lt_of_le k2 h.size, xs, (h.same k k2 (hQ k hk)).trans k3⟩
theorem RT.y (h : RT w base g Q ps) : RTY w base g Q ps (fun _ => True) := by
  obtain ⟨np, cp, gs, h1, h2, h3, h4, h5, h6, h7⟩ := h.ex
  exact ⟨h.low, np, cp, gs, h1, h2, h3, h4, h5, h6, h7, fun _ _ _ _ => trivial⟩
theorem RT.turn (hr : RT w base g Q ps) (h : Turn w w' base row (fun _ => True)) : RT w' base g Q ps := (hr.y.turn h).rt
/-- an undo's box is written -/
theorem Turn.box {X : Nat} {xs : Array Value} (hX : base ≤ X) (h : w.heap[X]? = some (.cells xs 25 (0, 0))) (j : Nat) (v : Value) (Y : Nat → Prop) : Turn w (w.setCell ⟨X, j, none⟩ v) base (some X) Y :=
  ⟨by simp, fun k hk hne => Below.heap_setCell _ _ _ _ (fun e => hne (by rw [e])), fun b hb => by cases hb; exact ⟨hX, xs, _, h, .inr (.inl rfl)⟩⟩
/-- points are appended -/
theorem Turn.points {n c : Nat} {G : Value → Prop} {cs : List Value} (h : Own w b2 54 34 G A n c cs) (hb : ∀ k, blk A = some k → base ≤ k) (hg : w.grownBy w' (blk A)) (Y : Nat → Prop) : Turn w w' base (blk A) Y :=
  ⟨hg.size, fun k hk hne => hg.block k hk (fun e => hne e.symm), fun b he => by
    refine ⟨hb b he, ?_⟩
    rcases h.2 with ⟨rfl, _⟩ | ⟨k', cur, rfl, _, hh, _⟩
    · cases he
    · have e : k' = b := by simpa [blk] using he
      subst e
      exact ⟨cur, _, hh, .inl rfl⟩⟩
/-- coins are appended to coins that no page has -/
theorem Turn.coins {n c : Nat} {G : Value → Prop} {cs : List Value} (h : Own w b2 57 37 G A n c cs) (hb : ∀ k, blk A = some k → base ≤ k) (hg : w.grownBy w' (blk A)) (hY : ∀ k, Y k → blk A ≠ some k) : Turn w w' base (blk A) Y :=
  ⟨hg.size, fun k hk hne => hg.block k hk (fun e => hne e.symm), fun b he => by
    refine ⟨hb b he, ?_⟩
    rcases h.2 with ⟨rfl, _⟩ | ⟨k', cur, rfl, _, hh, _⟩
    · cases he
    · have e : k' = b := by simpa [blk] using he
      subst e
      exact ⟨cur, _, hh, .inr (.inr ⟨rfl, fun k hk e => hY k hk (by rw [e]; exact he)⟩)⟩⟩
/-- the table takes on the copy's pages -/
theorem RT.adopt {h2 : Nat} (hr : RT w base h2 Q ps) (hlow : base ≤ g) {ys : Array Value} (hg : w.heap[g]? = some (.cells ys 124 (0, 0))) (hys : ys.size = 1) : ∃ np cp, w.heap[h2]? = some (.cells #[.slice Q np cp] 124 (0, 0)) ∧ RT (w.setCell ⟨g, 0, none⟩ (.slice Q np cp)) base g Q ps := by
  obtain ⟨np, cp, gs, h1, h2, h3, h4, h5, h6, h7⟩ := hr.ex
  have ho : Only w (w.setCell ⟨g, 0, none⟩ (.slice Q np cp)) g none := (Only.refl w g none).setCell (.inl rfl) _
  have hS : Soft w (w.setCell ⟨g, 0, none⟩ (.slice Q np cp)) base g none := ⟨ho, hlow, fun k hk => (by cases hk), ⟨ys, _, hg, .inr rfl⟩, fun k hk => (by cases hk)⟩
  have hQ : ∀ k, blk Q = some k → (w.setCell ⟨g, 0, none⟩ (.slice Q np cp)).heap[k]? = w.heap[k]? := fun k hk => by
    obtain ⟨_, k2, xs, k3⟩ := h7 k hk
    refine ho.block k k2 (fun e => ?_) (fun e => by cases e)
    subst e
    rw [hg] at k3
    injection k3 with k3
    injection k3 with _ k3
    exact absurd k3 (by decide)
  refine ⟨np, cp, h1, hlow, np, cp, gs, ?_, ?_, h3, h4, fun x hx => (h5 x hx).soft hS, h6, fun k hk => ?_⟩
  · rw [heap_setCell_same _ g 0 _ _ _ hg]
    match ys, hys with
    | ⟨[x]⟩, _ => rfl
  · exact h2.keep (by simp) fun k hk ad e1 e2 => hQ k (by rw [e1, e2]; rfl)
  · obtain ⟨k1, k2, xs, k3⟩ := h7 k hk
    exact ⟨k1, by simpa using k2, xs, (hQ k hk).trans k3⟩
end
/-- between two steps of the reference's Do -/
structure RS (wc wr : World) (base h : Nat) (L : Nat) (Q : Option Addr) (qs : List (List Cn)) (A : Option Addr) (k c : Nat) (hs : List Cm) (A2 : Option Addr) (k2 c2 : Nat) (ys : List Pt) : Prop where
  only : Only wc wr h none
  rt : RT wr base h Q qs
  kq : ∀ j, blk Q = some j → L ≤ j
  sp : Own wr base 57 37 (fun _ => True) A k c (pcs hs)
  spm : ∀ m ∈ hs, m.ok wr ∧ FirmL wr base m
  spl : hs.length = k
  spb : ∀ j, blk A = some j → wc.heap.size ≤ j
  md : OwnQ wr base A2 k2 c2 ys
  mdb : ∀ j, blk A2 = some j → wc.heap.size ≤ j
  box : wr.heap[wc.heap.size]? = some (.cells #[.slice A k c, .slice A2 k2 c2] 25 (0, 0))
  bs : base ≤ wc.heap.size
  hl : h < wc.heap.size
  ll : L ≤ wc.heap.size
section
variable {wc wr w3 w6 : World} {base h L k c k2 c2 c' : Nat} {Q Q' A A2 B' : Option Addr} {qs qs' : List (List Cn)} {hs : List Cm} {ys : List Pt} {m : Cm} {p : Pt}
theorem RS.below (s : RS wc wr base h L Q qs A k c hs A2 k2 c2 ys) (hb : Below wr.heap.size wr w3) : RS wc w3 base h L Q qs A k c hs A2 k2 c2 ys :=
  ⟨s.only.then hb, s.rt.below hb, s.kq, s.sp.below hb, fun m hm => ⟨(s.spm m hm).1.below hb, (s.spm m hm).2.below hb⟩, s.spl, s.spb, s.md.below hb, s.mdb, kept s.box hb, s.bs, s.hl, s.ll⟩
theorem RS.move (s : RS wc wr base h L Q qs A k c hs A2 k2 c2 ys) (ho : Only wr w3 h none) (hk : Kept wr Q Q') (hT : RT w3 base h Q' qs') : RS wc w3 base h L Q' qs' A k c hs A2 k2 c2 ys := by
  obtain ⟨xs, hx⟩ := s.rt.struct
  have hS := s.rt.soft_of ho
  refine ⟨s.only.chain (.inl rfl) ho, hT, ?_, Own.onlyR s.sp ho hx (fun k hk => by cases hk) (by decide) (by decide), fun m hm => ⟨Cm.soft (s.spm m hm).1 (s.spm m hm).2 hS, fun h0 => ((s.spm m hm).2 h0).soft hS⟩, s.spl, s.spb, ⟨Own.onlyR s.md.row ho hx (fun k hk => by cases hk) (by decide) (by decide), s.md.ok, s.md.len⟩, s.mdb, ho.heap s.box (by have := s.hl; omega) (fun e => by cases e), s.bs, s.hl, s.ll⟩
  rcases hk with rfl | hk
  · exact s.kq
  · intro j hj
    have := hk j hj
    have := s.only.size
    have := s.ll
    omega
theorem Own.turn {w w' : World} {base b2 : Nat} {row : Option Nat} {Y : Nat → Prop} {e : TypeId} {size : Nat} {G : Value → Prop} {A : Option Addr} {n c : Nat} {cs : List Value} (ho : Own w b2 e size G A n c cs) (h : Turn w w' base row Y) (hne : ∀ k, blk A = some k → row ≠ some k) : Own w' b2 e size G A n c cs :=
  Own.keep ho fun k hk => h.same k (Own.lt ho k hk).2 (hne k hk)
theorem RS.box1 (s : RS wc wr base h L Q qs A k c hs A2 k2 c2 ys) (hg : wr.grownBy w6 (blk A)) : w6.heap[wc.heap.size]? = some (.cells #[.slice A k c, .slice A2 k2 c2] 25 (0, 0)) :=
  ((Spare.grow s.sp hg).block _ _ _ s.box (by decide)).trans s.box
theorem RS.box2 (s : RS wc wr base h L Q qs A k c hs A2 k2 c2 ys) (hg : wr.grownBy w6 (blk A2)) : w6.heap[wc.heap.size]? = some (.cells #[.slice A k c, .slice A2 k2 c2] 25 (0, 0)) :=
  ((Spare.grow s.md.row hg).block _ _ _ s.box (by decide)).trans s.box
/-- a coin more is spent -/
theorem RS.spend (s : RS wc wr base h L Q qs A k c hs A2 k2 c2 ys) (hy : RTY wr base h Q qs (fun j => blk A ≠ some j)) (hm : m.ok wr ∧ FirmL wr base m) (ho : Own w6 base 57 37 (fun _ => True) B' (k + 1) c' (pcs (hs ++ [m]))) (hg : wr.grownBy w6 (blk A)) (hB : B' = A ∨ B' = some ⟨wr.heap.size, 0, none⟩) :
    RS wc (w6.setCell ⟨wc.heap.size, 0, none⟩ (.slice B' (k + 1) c')) base h L Q qs B' (k + 1) c' (hs ++ [m]) A2 k2 c2 ys ∧ RTY (w6.setCell ⟨wc.heap.size, 0, none⟩ (.slice B' (k + 1) c')) base h Q qs (fun j => blk B' ≠ some j) := by
  have hy2 : RTY wr base h Q qs (fun j => blk A ≠ some j ∧ j < wr.heap.size) := hy.mono fun j h1 h2 => ⟨h2, h1⟩
  have t1 : Turn wr w6 base (blk A) (fun j => blk A ≠ some j ∧ j < wr.heap.size) := Turn.coins s.sp (fun j hj => Nat.le_trans s.bs (s.spb j hj)) hg (fun j hj => hj.1)
  have hbox := s.box1 hg
  have t2 := fun Y => Turn.box (base := base) s.bs hbox 0 (.slice B' (k + 1) c') Y
  have y1 := (hy2.turn t1).turn (t2 _)
  have hyB : RTY (w6.setCell ⟨wc.heap.size, 0, none⟩ (.slice B' (k + 1) c')) base h Q qs (fun j => blk B' ≠ some j) := y1.mono fun j h1 h2 => by
    rcases hB with rfl | rfl
    · exact h2.1
    · intro e
      have e : wr.heap.size = j := by simpa [blk] using e
      have := h2.2
      omega
  have hcoin : ∀ m, m.ok wr ∧ FirmL wr base m → m.ok (w6.setCell ⟨wc.heap.size, 0, none⟩ (.slice B' (k + 1) c')) ∧ FirmL (w6.setCell ⟨wc.heap.size, 0, none⟩ (.slice B' (k + 1) c')) base m := fun m hm => by
    have a1 := Cm.turn hm.1 hm.2 t1
    have a2 : FirmL w6 base m := fun h0 => (hm.2 h0).turn t1
    exact ⟨Cm.turn a1 a2 (t2 (fun _ => True)), fun h0 => (a2 h0).turn (t2 (fun _ => True))⟩
  refine ⟨⟨(s.only.more hg s.spb).cellN (Nat.le_refl _) _, y1.rt, s.kq, Own.spare ho (Spare.set hbox 0 _) (by decide), fun z hz => ?_, by rw [List.length_append, s.spl]; rfl, ?_, (s.md.spare (Spare.grow s.sp hg) (by decide)).spare (Spare.set hbox 0 _) (by decide), s.mdb, ?_, s.bs, s.hl, s.ll⟩, hyB⟩
  · rcases List.mem_append.1 hz with hz | hz
    · exact hcoin z (s.spm z hz)
    · rcases List.mem_singleton.1 hz with rfl; exact hcoin _ hm
  · rcases hB with rfl | rfl
    · exact s.spb
    · intro j hj
      have e : wr.heap.size = j := by simpa [blk] using hj
      have := s.only.size
      omega
  · have := heap_setCell_same _ _ 0 _ _ (.slice B' (k + 1) c') hbox
    simpa using this
/-- a point more is made -/
theorem RS.made (s : RS wc wr base h L Q qs A k c hs A2 k2 c2 ys) (ho : OwnQ w6 base B' (k2 + 1) c' (ys ++ [p])) (hg : wr.grownBy w6 (blk A2)) (hB : B' = A2 ∨ B' = some ⟨wr.heap.size, 0, none⟩) :
    RS wc (w6.setCell ⟨wc.heap.size, 1, none⟩ (.slice B' (k2 + 1) c')) base h L Q qs A k c hs B' (k2 + 1) c' (ys ++ [p]) := by
  have t1 := Turn.points (base := base) s.md.row (fun j hj => Nat.le_trans s.bs (s.mdb j hj)) hg (fun _ => True)
  have hbox := s.box2 hg
  have t2 := Turn.box (base := base) s.bs hbox 1 (.slice B' (k2 + 1) c') (fun _ => True)
  refine ⟨(s.only.more hg s.mdb).cellN (Nat.le_refl _) _, (s.rt.turn t1).turn t2, s.kq, Own.spare (Own.spare s.sp (Spare.grow s.md.row hg) (by decide)) (Spare.set hbox 1 _) (by decide), fun z hz => ?_, s.spl, s.spb, ho.spare (Spare.set hbox 1 _) (by decide), ?_, ?_, s.bs, s.hl, s.ll⟩
  · have a1 := Cm.turn (s.spm z hz).1 (s.spm z hz).2 t1
    have a2 : FirmL w6 base z := fun h0 => ((s.spm z hz).2 h0).turn t1
    exact ⟨Cm.turn a1 a2 t2, fun h0 => (a2 h0).turn t2⟩
  · rcases hB with rfl | rfl
    · exact s.mdb
    · intro j hj
      have e : wr.heap.size = j := by simpa [blk] using hj
      have := s.only.size
      omega
  · have := heap_setCell_same _ _ 1 _ _ (.slice B' (k2 + 1) c') hbox
    simpa using this
theorem RS.firmP (s : RS wc wr base h L Q qs A k c hs A2 k2 c2 ys) : FirmP wr base ⟨A, k, c, hs⟩ :=
  ⟨⟨s.sp.rd, fun m hm => (s.spm m hm).1, s.spl, (Own.len_cap s.sp).1, (Own.len_cap s.sp).2⟩, Firm.own s.sp (by decide) (by decide) (by decide) (by decide) (by decide), fun m hm => (s.spm m hm).2⟩
end
end Go.Proofs.Ytofclanljhfkiaa
/- The reference's Do: the walk. -/
namespace Go.Proofs.Ytofclanljhfkiaa
open Go.RowKit Go.Proofs En Co
set_option linter.unusedVariables false
set_option linter.unusedSimpArgs false
set_option maxRecDepth 20000
attribute [local go_sem ↓] ld_point_eq ld_coin_eq ld_hash_eq st_point_eq st_coin_eq bd_point_eq bd_coin_eq eq_point_eq ne_point_eq al_coin_eq al_point_eq bs_coin_eq bs_point_eq
attribute [local go_sem] ld_point_run ld_coin_run ld_hash_run st_point_run st_coin_run bd_point_zero bd_coin_zero bd_point_of bd_coin_of hash_at rowIs_34 rowIs_37 rowIs_both hasAt_both cellsAt_both eq_point_run ne_point_run guard_pt al_coin_run al_point_run al_coin_row al_point_row nil_bytes nil_coins bs_coin_run bs_point_run

/-- pages as they may be -/
structure GoodP (ps : List (List Cn)) : Prop where
  pos : ∀ l ∈ ps, 0 < l.length
  most : ps.flatten.length ≤ 2000
structure GoodT (ps : List (List Cn)) : Prop extends GoodP ps where
  rise : Rise (ps.flatten.map Cn.p)
theorem GoodP.many {ps : List (List Cn)} (h : GoodP ps) : ps.length ≤ 2000 := Nat.le_trans (pages_le h.pos) h.most
theorem GoodT.take {ps : List (List Cn)} {p : Pt} (h : GoodT ps) (he : (takeM ps p).2.2 = 0) : GoodT (takeM ps p).1 := by
  obtain ⟨c, hf, e⟩ := take_yes he
  rw [e]
  have hfl : (takeF2 ps p).flatten = lostF ps.flatten p := lostF_flat ps p
  refine ⟨⟨fun l hl => ?_, ?_⟩, ?_⟩
  · have hl : l ∈ takeF2 ps p := hl
    unfold takeF2 at hl
    simpa using (List.mem_filter.1 hl).2
  · show (takeF2 ps p).flatten.length ≤ 2000
    rw [hfl]
    exact Nat.le_trans (List.length_filter_le _ _) h.most
  · show Rise ((takeF2 ps p).flatten.map Cn.p)
    rw [hfl]
    exact h.rise.sub (List.Sublist.map _ List.filter_sublist)
theorem insF_pos (l : List Cn) (c : Cn) : 0 < (insF l c).length := by rw [insF_len]; omega
theorem GoodP.put {ps : List (List Cn)} {c : Cn} (h : GoodP ps) (he : (putM ps c).2 = 0) : GoodP (putM ps c).1 := by
  obtain ⟨h1, h2, e⟩ := put_yes he
  have hlim : ¬ 2000 ≤ ps.flatten.length := fun hl => by
    rw [putM_limit h1 h2 hl] at he
    exact absurd he (show ¬ (3 : Int) = 0 by decide)
  refine ⟨fun l hl => ?_, by have := put_more he; omega⟩
  rw [e] at hl
  have hl : l ∈ putF2 ps c := hl
  unfold putF2 at hl
  split at hl
  · rcases List.mem_singleton.1 hl with rfl; exact Nat.one_pos
  · rcases List.mem_append.1 hl with hl | hl
    · rcases List.mem_append.1 hl with hl | hl
      · exact h.pos l (List.mem_of_mem_take hl)
      · have hi := insF_pos (ps.getD (pageNk ps c.p ps.length) []) c
        unfold cutF at hl
        split at hl
        · rcases List.mem_cons.1 hl with rfl | hl
          · rw [List.length_take]; omega
          · rcases List.mem_singleton.1 hl with rfl; rw [List.length_drop]; omega
        · rcases List.mem_singleton.1 hl with rfl; exact hi
    · exact h.pos l (List.mem_of_mem_drop hl)
theorem RTY.below {w w' : World} {base g : Nat} {Q : Option Addr} {ps : List (List Cn)} {Y : Nat → Prop} (h : RTY w base g Q ps Y) (hb : Below w.heap.size w w') : RTY w' base g Q ps Y := by
  obtain ⟨np, cp, gs, h1, h2, h3, h4, h5, h6, h7, h8⟩ := h.ex
  exact ⟨h.low, np, cp, gs, kept h1 hb, h2.below hb, h3, h4, fun x hx => (h5 x hx).below hb, h6, fun k hk => by
    obtain ⟨k1, k2, xs, k3⟩ := h7 k hk
    exact ⟨k1, Nat.lt_of_lt_of_le k2 hb.size, xs, kept k3 hb⟩, h8⟩
/-- append of points, at a step of a region that draws its order -/
theorem step_appQ (w : World) {ops : Array Oper} {o : Oper} {a : Act} {K : Act → World → Prop} {Q : Exit → Act → World → Prop} {E : Prop} (hgd : o.guard = none) (s x : Operand)
    (ho : o.op = .call { callee := .builtin .append, args := #[s, x], argTypes := #[23, 23] })
    (base : Nat) (B : Option Addr) (n c : Nat) (xs : List Pt) (hsv : a.eval s = .slice B n c) (hown : OwnQ w base B n c xs)
    (B2 : Option Addr) (m2 c2 : Nat) (ys : List Pt) (hx : a.eval x = .slice B2 m2 c2) (hg : Rd w 34 B2 m2 (pps ys)) (hl2 : ys.length = m2) (hys : ∀ p ∈ ys, p.ok) (hm : n + m2 ≤ 1000000000) (hbase : base ≤ w.heap.size)
    (h : ∀ B' c' w', OwnQ w' base B' (n + m2) c' (xs ++ ys) → w.grownBy w' (blk B) → (B' = B ∨ B' = some ⟨w.heap.size, 0, none⟩) → K (a.put o.dst (.slice B' (n + m2) c')) w') :
    if Region.wanted o (yielded ops a.tmps) = true then Oper.wp Try.prog o a w K Q else E := by
  have hw : Region.wanted o (yielded ops a.tmps) = true := by simp [Region.wanted, hgd]
  rw [if_pos hw]
  obtain ⟨i, z, hi, hz, hzc, hsz, hby⟩ := info_cells inf_point
  obtain ⟨A', c', w', hrun, h2, h3, h4⟩ := run_app (P := Try.prog) w base 23 o.type 54 i z 34 40 (fun _ => True) Try.underlying23 hi hz hsz hby (by rw [hzc]; simpa using pc_length zeroPt_ok) (by omega) (fun _ _ => trivial) B n c (pps xs) hown.row B2 m2 c2 (pps ys) hg pps_one (fun _ _ => trivial) (by unfold maxLen; omega) (by omega) hbase
  unfold Oper.wp execOp
  simp only [ho, resolve, invoke, builtin, Sem.run_bind, Sem.run_pure, Result.andThen_ok, List.map_toArray, List.map_cons, List.map_nil, hsv, hx, hrun]
  refine h _ _ _ ⟨by rw [pps_append]; exact h2, fun p hp => ?_, by rw [List.length_append, hown.len, hl2]⟩ h3 h4
  rcases List.mem_append.1 hp with hp | hp
  · exact hown.ok p hp
  · exact hys p hp
theorem wpList_appR (w : World) {ops : Array Oper} {rest : List Oper} {o : Oper} {a : Act} {Q : Exit → Act → World → Prop} (hgd : o.guard = none) (s x : Operand)
    (ho : o.op = .call { callee := .builtin .append, args := #[s, x], argTypes := #[22, 22] })
    (base : Nat) (B : Option Addr) (n c : Nat) (hs : List Cm) (hsv : a.eval s = .slice B n c) (hown : Own w base 57 37 (fun _ => True) B n c (pcs hs))
    (B2 : Option Addr) (m2 c2 : Nat) (gs : List Cm) (hx : a.eval x = .slice B2 m2 c2) (hg : Rd w 37 B2 m2 (pcs gs)) (hm : n + m2 ≤ 1000000000) (hbase : base ≤ w.heap.size)
    (h : ∀ B' c' w', Own w' base 57 37 (fun _ => True) B' (n + m2) c' (pcs (hs ++ gs)) → w.grownBy w' (blk B) → (B' = B ∨ B' = some ⟨w.heap.size, 0, none⟩) → wpList Try.prog ops Q rest (a.put o.dst (.slice B' (n + m2) c')) w') :
    wpList Try.prog ops Q (o :: rest) a w := by
  obtain ⟨i, z, hi, hz, hzc, hsz, hby⟩ := info_cells inf_coin
  refine wpList_app _ hgd s x _ ho base 57 i z 37 80 (fun _ => True) Try.underlying22 hi hz hsz hby (by rw [hzc]; simpa using cc_length (m := zm) zeroPt_ok) (by omega) (fun _ _ => trivial) B n c (pcs hs) hsv hown _ m2 c2 (pcs gs) hx hg pcs_one (fun _ _ => trivial)
    (by unfold maxLen; omega) (by omega) hbase ?_
  intro B' c' w' h2 hg2 h3
  exact h B' c' w' (by rw [pcs_append]; exact h2) hg2 h3

/-- what the reference's Do leaves -/
def RDoE (w : World) (base g : Nat) (Q : Option Addr) (r : List (List Cn) × List Cn × List Pt × Int) (e : Ending) (w' : World) : Prop :=
  ∃ A n d hs A2 n2 d2, e = .returned (.tuple #[.agg #[.slice A n d, .slice A2 n2 d2], .int .i64 r.2.2.2]) ∧ FirmP w' base ⟨A, n, d, hs⟩ ∧ cns hs = r.2.1 ∧ OwnQ w' base A2 n2 d2 r.2.2.1 ∧ ∃ Q', RT w' base g Q' r.1 ∧ Only w w' g none ∧ Kept w Q Q'
theorem RDoE.bad {w w' : World} {base g : Nat} {Q : Option Addr} {ps : List (List Cn)} {q : Int} {r : List (List Cn) × List Cn × List Pt × Int} {v : Value} (hr : r = (ps, [], [], q)) (hv : v = .tuple #[.agg #[.slice none 0 0, .slice none 0 0], .int .i64 q]) (h : RT w base g Q ps) (hb : Below w.heap.size w w') : RDoE w base g Q r (.returned v) w' := by
  subst hr hv
  exact ⟨none, 0, 0, [], none, 0, 0, rfl, OwnP.firm (x := ⟨none, 0, 0, []⟩) (OwnP.nil _ base), rfl, OwnQ.nil _ _, Q, h.below hb, Only.of hb, .inl rfl⟩

/-- the end of the reference's Do: the table takes on the copy's pages, the undo is told -/
theorem rdo_end {w wc wr : World} {base h h2 : Nat} {Q Qj A A2 : Option Addr} {ps rs : List (List Cn)} {k d j d2 : Nat} {hs : List Cm} {ys : List Pt} (S : Below w.heap.size w wc) (hr : RT w base h Q ps) (hX : wc.heap[w.heap.size]? = some (.cells #[.slice none 0 0, .slice none 0 0] 25 (0, 0))) (hE : RS wc wr base h2 w.heap.size Qj rs A k d hs A2 j d2 ys) (h2g : w.heap.size + 1 ≤ h2) (hXl : w.heap.size < wc.heap.size) :
    ∃ np cp x, wr.heap[h2]? = some (.cells #[.slice Qj np cp] 124 (0, 0)) ∧ wr.heap[h]? = some (.cells #[x] 124 (0, 0)) ∧ wr.heap[w.heap.size]? = some (.cells #[.slice none 0 0, .slice none 0 0] 25 (0, 0)) ∧
      ((((wr.setCell ⟨h, 0, none⟩ (.slice Qj np cp)).setCell ⟨w.heap.size, 0, none⟩ (.slice A k d)).setCell ⟨w.heap.size, 1, none⟩ (.slice A2 j d2)).heap[w.heap.size]? = some (.cells #[.slice A k d, .slice A2 j d2] 25 (0, 0))) ∧
      RDoE w base h Q (rs, cns hs, ys, 0) (.returned (.tuple #[.agg #[.slice A k d, .slice A2 j d2], .int .i64 0])) (((wr.setCell ⟨h, 0, none⟩ (.slice Qj np cp)).setCell ⟨w.heap.size, 0, none⟩ (.slice A k d)).setCell ⟨w.heap.size, 1, none⟩ (.slice A2 j d2)) := by
  have bl : Below w.heap.size w wr := S.trans (hE.only.below (base := w.heap.size) (by omega) (by omega) (fun k hk => by cases hk))
  have hrr := hr.below bl
  obtain ⟨np0, cp0, gs0, hh, _⟩ := hrr.ex
  have hX2 := hE.only.heap hX (by omega) (fun e => by cases e)
  obtain ⟨np, cp, a1, a2⟩ := hE.rt.adopt hr.low hh rfl
  have hhl := hr.glow
  have o1 : Only wr (wr.setCell ⟨h, 0, none⟩ (.slice Qj np cp)) h none := (Only.refl wr h none).setCell (.inl rfl) _
  have hs1 := hrr.soft_of o1
  have hX3 : (wr.setCell ⟨h, 0, none⟩ (.slice Qj np cp)).heap[w.heap.size]? = some (.cells #[.slice none 0 0, .slice none 0 0] 25 (0, 0)) := (Below.heap_setCell _ _ _ _ (by show w.heap.size ≠ h; omega)).trans hX2
  have hX4 := heap_setCell_same _ _ 0 _ _ (.slice A k d) hX3
  have hX5 := heap_setCell_same _ _ 1 _ _ (.slice A2 j d2) hX4
  have hb : base ≤ w.heap.size := by omega
  have t1 := Turn.box (base := base) hb hX3 0 (.slice A k d) (fun _ => True)
  have t2 := Turn.box (base := base) hb hX4 1 (.slice A2 j d2) (fun _ => True)
  have s1 := Spare.set hX3 0 (.slice A k d)
  have s2 := Spare.set hX4 1 (.slice A2 j d2)
  have q1 : OwnQ (wr.setCell ⟨h, 0, none⟩ (.slice Qj np cp)) base A2 j d2 ys := ⟨Own.onlyR hE.md.row o1 hh (fun k hk => by cases hk) (by decide) (by decide), hE.md.ok, hE.md.len⟩
  have f1 := hE.firmP.soft hs1
  refine ⟨np, cp, _, a1, hh, hX2, by simpa using hX5, A, k, d, hs, A2, j, d2, rfl, (f1.turn t1 (fun _ _ => trivial)).turn t2 (fun _ _ => trivial), rfl, (q1.spare s1 (by decide)).spare s2 (by decide), Qj, (a2.turn t1).turn t2, ?_, .inr hE.kq⟩
  exact (((Only.of bl).setCell (.inl rfl) _).cellN (a := ⟨w.heap.size, 0, none⟩) (Nat.le_refl _) _).cellN (a := ⟨w.heap.size, 1, none⟩) (Nat.le_refl _) _


set_option maxRecDepth 20000 in
set_option maxHeartbeats 8000000 in
theorem rdo_m {w : World} {base h : Nat} {Q : Option Addr} {ps : List (List Cn)} (hr : RT w base h Q ps) (hgd : GoodT ps) {B : Option Addr} {n c : Nat} {xs : List Pt} (hq : FirmQ w base B n c xs) {B2 : Option Addr} {n2 c2 : Nat} {ks : List Cm} (hp : FirmP w base ⟨B2, n2, c2, ks⟩) :
    Calls Try.prog 50 #[ptr h, .slice B n c, .slice B2 n2 c2] w fun e w' => RDoE w base h Q (doM ps xs (cns ks)) e w' := by
  have r0 : (w.alloc (.cells #[.slice none 0 0, .slice none 0 0] 25)).heap[w.heap.size]? = some (.cells #[.slice none 0 0, .slice none 0 0] 25 (0, 0)) := heap_alloc_new w _
  have b0 : Below w.heap.size w (w.alloc (.cells #[.slice none 0 0, .slice none 0 0] 25)) := (Below.refl _ _).alloc (Nat.le_refl _) _
  have CP := Lib.hid (rcopy_m (hr.below b0) (by have := hgd.many; omega))
  have hhl := hr.glow
  have hncap := hq.cap
  have hmax : c ≤ 9223372036854775807 := by have := hq.max; simp only [maxLen] at this; omega
  have hn2cap : n2 ≤ c2 := hp.arg.cap
  have hmax2 : c2 ≤ 9223372036854775807 := by have := hp.arg.max; simp only [maxLen] at this; omega
  have H := Lib.hid (And.intro hr (And.intro hgd (And.intro hq (And.intro hp (And.intro r0 b0)))))
  clear hr hgd hq hp r0 b0
  go_enter Try.func50, Try.ntmps50
  go_wp2_with (fail)
  refine CP.out.mono ?_
  rintro e wc ⟨h2, Q2, rfl, hT2, hb2, hh2, hQ2⟩
  have hsz0 : w.heap.size + 1 ≤ h2 := by simpa using hh2
  have bc := bThen H.out.2.2.2.2.2 hb2
  have rX := kept H.out.2.2.2.2.1 hb2
  have hgl2 := hT2.glow
  have hXl := (Array.getElem?_eq_some_iff.1 rX).1
  have ad : Below wc.heap.size wc (wc.alloc undoBox) := (Below.refl _ _).alloc (Nat.le_refl _) _
  have RS0 : RS wc (wc.alloc undoBox) base h2 w.heap.size Q2 ps none 0 0 [] none 0 0 [] :=
    ⟨Only.of ad, hT2.below ad, fun j hj => by have := hQ2 j hj; simp at this; omega, Own.nil _ _ _ _ _, fun _ h => (by cases h), rfl, fun j h => (by cases h), OwnQ.nil _ _, fun j h => (by cases h), heap_alloc_new _ _, by omega, hgl2.2, bc.size⟩
  have RY0 : RTY (wc.alloc undoBox) base h2 Q2 ps (fun j => blk none ≠ some j) := (hT2.below ad).y.mono fun j _ _ e => by cases e
  have hOB := Lib.hid (fun (wr : World) (ho : Only wc wr h2 none) => (ho.below (base := w.heap.size) (by have := bc.size; omega) (by omega) (fun k hk => by cases hk)))
  have S := Lib.hid (And.intro bc (And.intro hT2 (And.intro (H.out.2.2.1.below bc) (And.intro (H.out.2.2.2.1.below bc) rX))))
  have R0 := Lib.hid (And.intro RS0 RY0)
  clear bc hT2 hb2 hh2 hQ2 rX ad RS0 RY0
  go_wp2_with (fail)
  go_loopw [10, 11, 12] (fun i _ _ wr => ∃ (k : Nat) (Qk : Option Addr) (qs : List (List Cn)) (A : Option Addr) (d : Nat) (hs : List Cm), k ≤ n ∧ i = .int .i64 k ∧ TakeI ps xs k qs (cns hs) ∧ GoodT qs ∧ RS wc wr base h2 w.heap.size Qk qs A k d hs none 0 0 [] ∧ RTY wr base h2 Qk qs (fun j => blk A ≠ some j)) (fun i _ _ _ => n - (intOf i).toNat)
  case atStart => exact ⟨0, Q2, ps, none, 0, [], by omega, rfl, TakeI.start _ _, H.out.2.1, R0.out.1, R0.out.2⟩
  case round =>
    obtain ⟨k, Qk, qs, A, d, hs, hk, rfl, hT, hG, hD, hY⟩ := hrel
    have hsoft := S.out.2.1.soft_of hD.only
    by_cases hlt : k < n
    · have d1 : decide ((k : Int) < (n : Int)) = true := decide_eq_true (by omega)
      obtain ⟨ad, p, rfl, hp, hpo, hbk, hcp⟩ := (S.out.2.2.1.soft hsoft).at_ hlt
      have hld := ld_point_of wr (ad.add (k * 34)) p hpo hcp
      have TK := rtakeN_m hD.rt hG.most hG.many p hpo
      have htg := hG.take (p := p)
      obtain ⟨qs2, cn, q, hcq⟩ : ∃ qs2 cn q, takeM qs p = (qs2, cn, q) := ⟨_, _, _, rfl⟩
      rw [hcq] at TK htg
      have TK := Lib.hid TK
      have X := Lib.hid (And.intro hT (And.intro hp (And.intro hcq (And.intro hD (And.intro hY (And.intro hG htg))))))
      have i1 : (0 : Int) ≤ (k : Int) := by omega
      have i2 : (k : Int) < (n : Int) := by omega
      have hokz := cc_ok (m := zm) zeroPt_ok
      clear hT hp hcq hD hY hcp hsoft hG htg
      go_wp2_with (fail)
      refine TK.out.mono ?_
      rintro e w3 ⟨m3, rfl, hm3, hok3, hfl3, Q', hT3, ho3, hk3, hy3⟩
      have hokm := cc_ok hok3.c.p
      have sl3 := slot_self w3 (.cells (cc zm).toArray 57) (cc m3).toArray
      have D3 := ((X.out.2.2.2.1.move ho3 hk3 hT3).below sl3)
      have hlc := ld_coin_at _ ⟨w3.heap.size, 0, none⟩ m3 hok3.c.p (coin_at (both_row w3 (cc zm).toArray 57 (cc m3).toArray))
      by_cases hq0 : q = 0
      · have dq : (q == 0) = true := by rw [hq0]; rfl
        have dq2 : (q != 0) = false := by rw [hq0]; rfl
        have l3 : Below ((w3.alloc (.cells (cc zm).toArray 57)).setRow w3.heap.size (cc m3).toArray).heap.size ((w3.alloc (.cells (cc zm).toArray 57)).setRow w3.heap.size (cc m3).toArray) (((w3.alloc (.cells (cc zm).toArray 57)).setRow w3.heap.size (cc m3).toArray).alloc (.cells (cc m3).toArray 57)) := (Below.refl _ _).alloc (Nat.le_refl _) _
        have hlu := (row_cells D3.box 0).1
        have D4 := D3.below l3
        have y4 : RTY (((w3.alloc (.cells (cc zm).toArray 57)).setRow w3.heap.size (cc m3).toArray).alloc (.cells (cc m3).toArray 57)) base h2 Q' qs2 (fun j => blk A ≠ some j) :=
          ((hy3 hq0).mono fun j _ h1 e => by have := (Own.lt X.out.2.2.2.1.sp j e).2; omega).below (bThen sl3 l3)
        have hone := one_row ((w3.alloc (.cells (cc zm).toArray 57)).setRow w3.heap.size (cc m3).toArray) m3 hok3.c.p
        rw [show ((w3.alloc (.cells (cc zm).toArray 57)).setRow w3.heap.size (cc m3).toArray).heap.size = w3.heap.size + 1 by simp] at hone
        have hkm : k + 1 ≤ 1000000000 := by have := X.out.1.len; have := H.out.2.1.most; omega
        have hz4 : base ≤ (((w3.alloc (.cells (cc zm).toArray 57)).setRow w3.heap.size (cc m3).toArray).alloc (.cells (cc m3).toArray 57)).heap.size := by have := D4.rt.glow; omega
        have cm4 := And.intro (hok3.below (bThen sl3 l3)) (hfl3.below (bThen sl3 l3))
        have hnx := X.out.1.next X.out.2.2.2.2.2.1.rise X.out.2.1 (by rw [X.out.2.2.1]; exact hq0)
        rw [X.out.2.2.1] at hnx
        have Y := Lib.hid (And.intro D4 (And.intro y4 (And.intro hone (And.intro hkm (And.intro hz4 (And.intro cm4 (And.intro hnx (And.intro (X.out.2.2.2.2.2.2 hq0) hm3))))))))
        clear D3 D4 y4 hone hkm hz4 cm4 hnx hq0 l3 sl3 hm3 hfl3 hT3 ho3 hk3 hy3 hld
        go_wp2_with (at_builtin; refine Stop.mk ?_)
        refine Stop.out ?_
        refine wpList_appR _ rfl (.tmp 37) (.tmp 39) rfl base A k d hs rfl Y.out.1.sp _ 1 1 [m3] rfl Y.out.2.2.1 Y.out.2.2.2.1 Y.out.2.2.2.2.1 ?_
        intro A4 k4 w5 ho4 hg4 hB4
        have bxr := Y.out.1.box1 hg4
        have c5 := (row_cells bxr 0).1
        have f5 := (row_cells bxr 0).2
        have D5 := Y.out.1.spend Y.out.2.1 Y.out.2.2.2.2.2.1 ho4 hg4 hB4
        have Z := Lib.hid D5
        clear ho4 hg4 hB4 bxr D5 hlu hlc
        go_wp2_with (fail)
        go_roundw
        case rel =>
          refine ⟨k + 1, Q', qs2, A4, k4, hs ++ [m3], by omega, by go_num, ?_, Y.out.2.2.2.2.2.2.2.1, Z.out.1, Z.out.2⟩
          rw [cns_append]
          show TakeI ps xs (k + 1) qs2 (cns hs ++ [m3.c])
          rw [Y.out.2.2.2.2.2.2.2.2]
          exact Y.out.2.2.2.2.2.2.1
        case measure => simp [intOf]; omega
      · have dq : (q == 0) = false := by simpa using hq0
        have dq2 : (q != 0) = true := by simpa using hq0
        have hst := X.out.1.stop X.out.2.1 (by rw [X.out.2.2.1]; exact hq0)
        rw [X.out.2.2.1] at hst
        have hr : doM ps xs (cns ks) = (ps, [], [], q) := (doM_take (by rw [hst]; exact hq0)).trans (by rw [hst])
        have bl := S.out.1.trans (hOB.out _ D3.only)
        have rX := D3.only.heap S.out.2.2.2.2 (by omega) (fun e => by cases e)
        have c0 := (row_cells rX 0).1
        have c1 := (row_cells rX 1).1
        have e0 := (row_cells rX 0).2
        have e1 := (row_cells rX 1).2
        have Y := Lib.hid (And.intro bl (And.intro rX hr))
        clear D3 hq0 hst hr bl rX sl3 hm3 hfl3 hT3 ho3 hk3 hy3 hld hlc
        go_wp2_with (fail)
        obtain ⟨k1, k2, _⟩ := box_wrote Y.out.1 (Nat.le_refl _) Y.out.2.1 (.slice none 0 0) (.slice none 0 0)
        exact bodyPost_ret (res_cell2 Try.results50 rfl (ld_undo _ _ _ _ k1)) rfl (RDoE.bad Y.out.2.2 rfl H.out.1 k2)
    · obtain rfl : k = n := by omega
      have d1 : decide ((k : Int) < (k : Int)) = false := decide_eq_false (by omega)
      have hdn := hT.done H.out.2.2.1.len
      have X := Lib.hid (And.intro hdn (And.intro hG.toGoodP hD))
      clear hT hD hdn hG hY hsoft
      obtain ⟨w9, hw9⟩ : ∃ w9, w9 = wr := ⟨_, rfl⟩
      subst hw9
      go_wp2_with (fail)
      go_loopw [13, 14] (fun i _ wr => ∃ (j : Nat) (Qj : Option Addr) (rs : List (List Cn)) (A2 : Option Addr) (d2 : Nat), j ≤ n2 ∧ i = .int .i64 j ∧ PutI qs (cns ks) j rs ∧ GoodP rs ∧ RS wc wr base h2 w.heap.size Qj rs A k d hs A2 j d2 (((cns ks).map Cn.p).take j)) (fun i _ _ => n2 - (intOf i).toNat)
      case atStart => exact ⟨0, Qk, qs, none, 0, by omega, rfl, PutI.start _ _, X.out.2.1, by simpa using X.out.2.2⟩
      case round =>
        obtain ⟨j, Qj, rs, A2, d2, hj, rfl, hI, hG, hE⟩ := hrel
        have hnl : (cns ks).length = n2 := by rw [cns_length]; exact H.out.2.2.2.1.arg.len
        by_cases hlt2 : j < n2
        · have dd : decide ((j : Int) < (n2 : Int)) = true := decide_eq_true (by omega)
          have hsoft := S.out.2.1.soft_of hE.only
          have hfp := S.out.2.2.2.1.soft hsoft
          obtain ⟨ad, m, he, hm, hok, hbk, hc⟩ := hfp.arg.at_ hlt2
          have he : B2 = some ad := he
          subst he
          have hld := ld_coin_at wr (ad.add (j * 37)) m hok.c.p hc
          have PT := rput_m hE.rt hG.pos hG.most hG.many m hok (hfp.lock m (List.mem_of_getElem? hm))
          have hpg := hG.put (c := m.c)
          obtain ⟨rs2, q, hcq⟩ : ∃ rs2 q, putM rs m.c = (rs2, q) := ⟨_, _, rfl⟩
          rw [hcq] at PT hpg
          have PT := Lib.hid PT
          have V := Lib.hid (And.intro hI (And.intro hm (And.intro hcq (And.intro hE (And.intro hnl (And.intro hok (And.intro hG hpg)))))))
          have i1 : (0 : Int) ≤ (j : Int) := by omega
          have i2 : (j : Int) < (n2 : Int) := by omega
          have hokm := cc_ok hok.c.p
          clear hI hm hcq hE hc hsoft hfp hnl hG hpg hok
          go_wp2_with (fail)
          refine PT.out.mono ?_
          rintro e w3 ⟨rfl, Q', hT3, ho3, hk3⟩
          have D3 := V.out.2.2.2.1.move ho3 hk3 hT3
          by_cases hq0 : q = 0
          · have dq : (q == 0) = true := by rw [hq0]; rfl
            have dq2 : (q != 0) = false := by rw [hq0]; rfl
            have hsoft3 := S.out.2.1.soft_of D3.only
            have hfp3 := S.out.2.2.2.1.soft hsoft3
            obtain ⟨ad3, m3, he3, hm3, hok3, hbk3, hc3⟩ := hfp3.arg.at_ hlt2
            have he3 : some ad = some ad3 := he3
            injection he3 with he3
            subst he3
            have hmm : ks[j]? = some m3 := hm3
            rw [V.out.2.1] at hmm
            injection hmm with hmm
            subst hmm
            have bd : Below w3.heap.size w3 w3.drew := (Below.refl _ _).drew
            have l3 : Below w3.heap.size w3 (w3.drew.alloc (.cells (pc m.c.p).toArray 54)) := bd.alloc (Nat.le_refl _) _
            have D4 := D3.below l3
            have hlp := ld_point_at w3.drew (ad.add (j * 37)) m hok3.c.p (fun i v hv => hc3 i v hv)
            have hb1 := (row_cells D3.box 1).1
            have hb2 : (w3.alloc (.cells (pc m.c.p).toArray 54)).cell? ⟨wc.heap.size, 1, none⟩ = some (.slice A2 j d2) := (row_cells D4.box 1).1
            have hz4 : base ≤ (w3.drew.alloc (.cells (pc m.c.p).toArray 54)).heap.size := by have := D4.rt.glow; omega
            have hkm : j + 1 ≤ 1000000000 := by have := V.out.1.len; have := V.out.2.2.2.2.2.2.1.most; omega
            have hpk := pc_ok hok3.c.p
            have hpo : ∀ y ∈ [m.c.p], y.ok := fun y hy => by rcases List.mem_singleton.1 hy with rfl; exact hok3.c.p
            have hmc : (cns ks)[j]? = some m.c := by unfold cns; rw [List.getElem?_map, V.out.2.1]; rfl
            have hnx := V.out.1.next hmc (by rw [V.out.2.2.1]; exact hq0)
            rw [V.out.2.2.1] at hnx
            have htk : ((cns ks).map Cn.p).take (j + 1) = ((cns ks).map Cn.p).take j ++ [m.c.p] := take_next (by rw [List.getElem?_map, hmc]; rfl)
            have Y := Lib.hid (And.intro D4 (And.intro (V.out.2.2.2.2.2.2.2 hq0) (And.intro hz4 (And.intro hkm (And.intro (one_rowQ w3.drew m.c.p hok3.c.p) (And.intro hpo (And.intro hnx htk)))))))
            clear D3 D4 hq0 hz4 hkm l3 bd hsoft3 hfp3 hm3 hc3 hbk3 hT3 ho3 hk3 hnx htk hmc hpo hld
            go_wp2_with (fail)
            go_region_law (refine step_appQ _ rfl (.tmp 59) (.tmp 65) rfl base A2 j d2 (((cns ks).map Cn.p).take j) (by rfl) Y.out.1.md _ 1 1 [m.c.p] (by rfl) Y.out.2.2.2.2.1 rfl Y.out.2.2.2.2.2.1 Y.out.2.2.2.1 Y.out.2.2.1 ?_; intro A4 k4 w5 ho4 hg4 hB4; have bxr := Y.out.1.box2 hg4; have c5 := (row_cells bxr 1).1; have f5 := (row_cells bxr 1).2)
            all_goals (
              have D5 := Y.out.1.made ho4 hg4 hB4
              rw [← Y.out.2.2.2.2.2.2.2] at D5
              have Z := Lib.hid (And.intro D5 (And.intro Y.out.2.2.2.2.2.2.1 Y.out.2.1))
              clear ho4 hg4 hB4 bxr D5 c5 f5 hb1 hb2 hlp
              go_wp2_with (fail)
              go_roundw
              case rel => exact ⟨j + 1, Q', rs2, A4, k4, by omega, by go_num, Z.out.2.1, Z.out.2.2, Z.out.1⟩
              case measure => simp [intOf]; omega)
          · have dq : (q == 0) = false := by simpa using hq0
            have dq2 : (q != 0) = true := by simpa using hq0
            have hmc : (cns ks)[j]? = some m.c := by unfold cns; rw [List.getElem?_map, V.out.2.1]; rfl
            have hst := V.out.1.stop hmc (by rw [V.out.2.2.1]; exact hq0)
            rw [V.out.2.2.1] at hst
            have hr : doM ps xs (cns ks) = (ps, [], [], q) := (doM_put X.out.1 (by rw [hst]; exact hq0)).trans (by rw [hst])
            have bl := S.out.1.trans (hOB.out _ D3.only)
            have rX := D3.only.heap S.out.2.2.2.2 (by omega) (fun e => by cases e)
            have c0 := (row_cells rX 0).1
            have c1 := (row_cells rX 1).1
            have e0 := (row_cells rX 0).2
            have e1 := (row_cells rX 1).2
            have Y := Lib.hid (And.intro bl (And.intro rX hr))
            clear D3 hq0 hst hr bl rX hT3 ho3 hk3 hld hmc
            go_wp2_with (fail)
            obtain ⟨k1, k2, _⟩ := box_wrote Y.out.1 (Nat.le_refl _) Y.out.2.1 (.slice none 0 0) (.slice none 0 0)
            exact bodyPost_ret (res_cell2 Try.results50 rfl (ld_undo _ _ _ _ k1)) rfl (RDoE.bad Y.out.2.2 rfl H.out.1 k2)
        · obtain rfl : j = n2 := by omega
          have d2' : decide ((j : Int) < (j : Int)) = false := decide_eq_false (by omega)
          have hpd := hI.done hnl
          have ht : ((cns ks).map Cn.p).take j = (cns ks).map Cn.p := List.take_of_length_le (by rw [List.length_map, hnl]; exact Nat.le_refl _)
          rw [ht] at hE
          have hdm := doM_done X.out.1 hpd
          obtain ⟨np, cp, x0, g1, g2, g3, g4, g5⟩ := rdo_end S.out.1 H.out.1 S.out.2.2.2.2 hE hsz0 hXl
          have z1 := (row_cells g1 0).1
          have z2 := (row_cells g2 0).1
          have z3 := (row_cells g2 0).2
          have c0 := (row_cells g3 0).1
          have c1 := (row_cells g3 1).1
          have e0 := (row_cells g3 0).2
          have e1 := (row_cells g3 1).2
          have b1 := (row_cells hE.box 0).1
          have b2 := (row_cells hE.box 1).1
          rw [← hdm] at g5
          have Y := Lib.hid (And.intro g4 g5)
          have hne1 : h ≠ wc.heap.size := by omega
          have hne2 : h ≠ w.heap.size := by omega
          clear hE hpd ht hI hnl hG hdm g1 g2 g3 g4 g5
          go_wp2_with (fail)
          exact bodyPost_ret (res_cell2 Try.results50 rfl (ld_undo _ _ _ _ Y.out.1)) rfl Y.out.2
end Go.Proofs.Ytofclanljhfkiaa
/- The reference's Back: the walk. -/
namespace Go.Proofs.Ytofclanljhfkiaa
open Go.RowKit Go.Proofs En Co
set_option linter.unusedVariables false
set_option linter.unusedSimpArgs false
set_option maxRecDepth 20000
attribute [local go_sem ↓] ld_point_eq ld_coin_eq ld_hash_eq st_point_eq st_coin_eq bd_point_eq bd_coin_eq eq_point_eq ne_point_eq al_coin_eq al_point_eq bs_coin_eq bs_point_eq
attribute [local go_sem] ld_point_run ld_coin_run ld_hash_run st_point_run st_coin_run bd_point_zero bd_coin_zero bd_point_of bd_coin_of hash_at rowIs_34 rowIs_37 rowIs_both hasAt_both cellsAt_both eq_point_run ne_point_run guard_pt al_coin_run al_point_run al_coin_row al_point_row nil_bytes nil_coins bs_coin_run bs_point_run

/-- between two steps of the reference's Back -/
structure RK (wc wr : World) (base h L : Nat) (Q : Option Addr) (qs : List (List Cn)) : Prop where
  only : Only wc wr h none
  rt : RT wr base h Q qs
  kq : ∀ j, blk Q = some j → L ≤ j
  ll : L ≤ wc.heap.size
section
variable {w wc wr w3 : World} {base h L : Nat} {Q Q' : Option Addr} {qs qs' : List (List Cn)}
theorem RK.below (s : RK wc wr base h L Q qs) (hb : Below wr.heap.size wr w3) : RK wc w3 base h L Q qs := ⟨s.only.then hb, s.rt.below hb, s.kq, s.ll⟩
theorem RK.move (s : RK wc wr base h L Q qs) (ho : Only wr w3 h none) (hk : Kept wr Q Q') (hT : RT w3 base h Q' qs') : RK wc w3 base h L Q' qs' := by
  refine ⟨s.only.chain (.inl rfl) ho, hT, ?_, s.ll⟩
  rcases hk with rfl | hk
  · exact s.kq
  · intro j hj
    have := hk j hj
    have := s.only.size
    have := s.ll
    omega
/-- the end of the reference's Back -/
theorem rback_end {h2 : Nat} {Qj : Option Addr} {ps rs : List (List Cn)} {r : List (List Cn) × Int} (S : Below w.heap.size w wc) (hr : RT w base h Q ps) (hE : RK wc wr base h2 w.heap.size Qj rs) (h2g : w.heap.size ≤ h2) (he : r = (rs, 0)) :
    ∃ np cp x, wr.heap[h2]? = some (.cells #[.slice Qj np cp] 124 (0, 0)) ∧ wr.heap[h]? = some (.cells #[x] 124 (0, 0)) ∧ rputEnd w (wr.setCell ⟨h, 0, none⟩ (.slice Qj np cp)) (.returned (.int .i64 0)) base h Q r := by
  have bl : Below w.heap.size w wr := S.trans (hE.only.below (base := w.heap.size) hE.ll h2g (fun k hk => by cases hk))
  have hrr := hr.below bl
  obtain ⟨np0, cp0, gs0, hh, _⟩ := hrr.ex
  obtain ⟨np, cp, a1, a2⟩ := hE.rt.adopt hr.low hh rfl
  subst he
  exact ⟨np, cp, _, a1, hh, rfl, Qj, a2, (Only.of bl).setCell (.inl rfl) _, .inr hE.kq⟩
end


set_option maxRecDepth 20000 in
set_option maxHeartbeats 8000000 in
theorem rback_m {w : World} {base h : Nat} {Q : Option Addr} {ps : List (List Cn)} (hr : RT w base h Q ps) (hgd : GoodT ps) {B : Option Addr} {n c : Nat} {xs : List Pt} (hq : FirmQ w base B n c xs) {B2 : Option Addr} {n2 c2 : Nat} {ks : List Cm} (hp : FirmP w base ⟨B2, n2, c2, ks⟩) :
    Calls Try.prog 52 #[ptr h, .agg #[.slice B2 n2 c2, .slice B n c]] w fun e w' => rputEnd w w' e base h Q (backM ps (cns ks) xs) := by
  have r0 : (w.alloc (.cells #[.slice B2 n2 c2, .slice B n c] 25)).heap[w.heap.size]? = some (.cells #[.slice B2 n2 c2, .slice B n c] 25 (0, 0)) := heap_alloc_new w _
  have b0 : Below w.heap.size w (w.alloc (.cells #[.slice B2 n2 c2, .slice B n c] 25)) := (Below.refl _ _).alloc (Nat.le_refl _) _
  have CP := Lib.hid (rcopy_m (hr.below b0) (by have := hgd.many; omega))
  have hhl := hr.glow
  have hncap := hq.cap
  have hmax : c ≤ 9223372036854775807 := by have := hq.max; simp only [maxLen] at this; omega
  have hn2cap : n2 ≤ c2 := hp.arg.cap
  have hmax2 : c2 ≤ 9223372036854775807 := by have := hp.arg.max; simp only [maxLen] at this; omega
  have H := Lib.hid (And.intro hr (And.intro hgd (And.intro hq (And.intro hp (And.intro r0 b0)))))
  clear hr hgd hq hp r0 b0
  go_enter Try.func52, Try.ntmps52
  go_wp2_with (fail)
  refine CP.out.mono ?_
  rintro e wc ⟨h2, Q2, rfl, hT2, hb2, hh2, hQ2⟩
  have hsz0 : w.heap.size + 1 ≤ h2 := by simpa using hh2
  have bc := bThen H.out.2.2.2.2.2 hb2
  have rX := kept H.out.2.2.2.2.1 hb2
  have hgl2 := hT2.glow
  have hXl := (Array.getElem?_eq_some_iff.1 rX).1
  have RS0 : RK wc wc base h2 w.heap.size Q2 ps := ⟨Only.refl _ _ _, hT2, fun j hj => by have := hQ2 j hj; simp at this; omega, bc.size⟩
  have hOB := Lib.hid (fun (wr : World) (ho : Only wc wr h2 none) => (ho.below (base := w.heap.size) (by have := bc.size; omega) (by omega) (fun k hk => by cases hk)))
  have S := Lib.hid (And.intro bc (And.intro hT2 (And.intro (H.out.2.2.1.below bc) (And.intro (H.out.2.2.2.1.below bc) rX))))
  have R0 := Lib.hid RS0
  clear bc hT2 hb2 hh2 hQ2 rX RS0
  go_wp2_with (fail)
  go_loopw [6, 7, 8] (fun i _ _ wr => ∃ (k : Nat) (Qk : Option Addr) (qs : List (List Cn)) (cs : List Cn), k ≤ n ∧ i = .int .i64 k ∧ TakeI ps xs k qs cs ∧ GoodT qs ∧ RK wc wr base h2 w.heap.size Qk qs) (fun i _ _ _ => n - (intOf i).toNat)
  case atStart => exact ⟨0, Q2, ps, [], by omega, rfl, TakeI.start _ _, H.out.2.1, R0.out⟩
  case round =>
    obtain ⟨k, Qk, qs, cs, hk, rfl, hT, hG, hD⟩ := hrel
    have hsoft := S.out.2.1.soft_of hD.only
    have rX := hD.only.heap S.out.2.2.2.2 (by omega) (fun e => by cases e)
    have x0 := (row_cells rX 0).1
    have x1 := (row_cells rX 1).1
    by_cases hlt : k < n
    · have d1 : decide ((k : Int) < (n : Int)) = true := decide_eq_true (by omega)
      obtain ⟨ad, p, rfl, hp, hpo, hbk, hcp⟩ := (S.out.2.2.1.soft hsoft).at_ hlt
      have hld := ld_point_of wr (ad.add (k * 34)) p hpo hcp
      have TK := rtake_m hD.rt hG.most hG.many p hpo
      have htg := hG.take (p := p)
      obtain ⟨qs2, cn, q, hcq⟩ : ∃ qs2 cn q, takeM qs p = (qs2, cn, q) := ⟨_, _, _, rfl⟩
      rw [hcq] at TK htg
      have TK := Lib.hid TK
      have X := Lib.hid (And.intro hT (And.intro hp (And.intro hcq (And.intro hD (And.intro hG htg)))))
      have i1 : (0 : Int) ≤ (k : Int) := by omega
      have i2 : (k : Int) < (n : Int) := by omega
      have hokz := cc_ok (m := zm) zeroPt_ok
      clear hT hp hcq hD hcp hsoft hG htg rX
      go_wp2_with (fail)
      refine TK.out.mono ?_
      rintro e w3 ⟨m3, rfl, hm3, hok3, hfl3, Q', hT3, ho3, hk3⟩
      have hokm := cc_ok hok3.c.p
      have sl3 := slot_self w3 (.cells (cc zm).toArray 57) (cc m3).toArray
      have D3 := ((X.out.2.2.2.1.move ho3 hk3 hT3).below sl3)
      by_cases hq0 : q = 0
      · have dq : (q == 0) = true := by rw [hq0]; rfl
        have dq2 : (q != 0) = false := by rw [hq0]; rfl
        have hnx := X.out.1.next X.out.2.2.2.2.1.rise X.out.2.1 (by rw [X.out.2.2.1]; exact hq0)
        rw [X.out.2.2.1] at hnx
        have Y := Lib.hid (And.intro D3 (And.intro hnx (X.out.2.2.2.2.2 hq0)))
        clear D3 hnx hq0 sl3 hm3 hfl3 hT3 ho3 hk3 hld x0 x1
        go_wp2_with (fail)
        go_roundw
        case rel => exact ⟨k + 1, Q', qs2, _, by omega, by go_num, Y.out.2.1, Y.out.2.2, Y.out.1⟩
        case measure => simp [intOf]; omega
      · have dq : (q == 0) = false := by simpa using hq0
        have dq2 : (q != 0) = true := by simpa using hq0
        have hst := X.out.1.stop X.out.2.1 (by rw [X.out.2.2.1]; exact hq0)
        rw [X.out.2.2.1] at hst
        have hr : backM ps (cns ks) xs = (ps, q) := (backM_take (by rw [hst]; exact hq0)).trans (by rw [hst])
        have bl := S.out.1.trans (hOB.out _ D3.only)
        have Y := Lib.hid (And.intro bl hr)
        clear D3 hq0 hst hr bl sl3 hm3 hfl3 hT3 ho3 hk3 hld x0 x1
        go_wp2_with (fail)
        go_ret
        exact rputEnd.same H.out.1 Y.out.1 Y.out.2
    · obtain rfl : k = n := by omega
      have d1 : decide ((k : Int) < (k : Int)) = false := decide_eq_false (by omega)
      have hdn := hT.done H.out.2.2.1.len
      have X := Lib.hid (And.intro hdn (And.intro hG.toGoodP hD))
      clear hT hD hdn hG hsoft rX
      obtain ⟨w9, hw9⟩ : ∃ w9, w9 = wr := ⟨_, rfl⟩
      subst hw9
      go_wp2_with (fail)
      go_loopw [9, 10] (fun i _ wr => ∃ (j : Nat) (Qj : Option Addr) (rs : List (List Cn)), j ≤ n2 ∧ i = .int .i64 ((j : Int) - 1) ∧ PutI qs (cns ks).reverse (n2 - j) rs ∧ GoodP rs ∧ RK wc wr base h2 w.heap.size Qj rs) (fun i _ _ => (intOf i + 1).toNat)
      case atStart => exact ⟨n2, Qk, qs, Nat.le_refl _, by go_num, by rw [Nat.sub_self]; exact PutI.start _ _, X.out.2.1, X.out.2.2⟩
      case round =>
        obtain ⟨j, Qj, rs, hj, rfl, hI, hG, hE⟩ := hrel
        have hnl : (cns ks).length = n2 := by rw [cns_length]; exact H.out.2.2.2.1.arg.len
        have rX := hE.only.heap S.out.2.2.2.2 (by omega) (fun e => by cases e)
        have x0 := (row_cells rX 0).1
        have x1 := (row_cells rX 1).1
        match j, hj, hI with
        | j + 1, hj, hI =>
          rw [show (((j + 1 : Nat) : Int) - 1) = (j : Int) by omega]
          have dd : decide ((j : Int) ≥ 0) = true := decide_eq_true (by omega)
          have dd2 : decide (0 ≤ (j : Int)) = true := decide_eq_true (by omega)
          have hsoft := S.out.2.1.soft_of hE.only
          have hfp := S.out.2.2.2.1.soft hsoft
          obtain ⟨ad, m, he, hm, hok, hbk, hc⟩ := hfp.arg.at_ (show j < n2 by omega)
          have he : B2 = some ad := he
          subst he
          have hld := ld_coin_at wr (ad.add (j * 37)) m hok.c.p hc
          have PT := rput_m hE.rt hG.pos hG.most hG.many m hok (hfp.lock m (List.mem_of_getElem? hm))
          have hpg := hG.put (c := m.c)
          obtain ⟨rs2, q, hcq⟩ : ∃ rs2 q, putM rs m.c = (rs2, q) := ⟨_, _, rfl⟩
          rw [hcq] at PT hpg
          have PT := Lib.hid PT
          have hmc : (cns ks).reverse[n2 - (j + 1)]? = some m.c := by
            rw [List.getElem?_reverse (by omega)]
            rw [show (cns ks).length - 1 - (n2 - (j + 1)) = j by omega]
            unfold cns
            have hm : ks[j]? = some m := hm
            rw [List.getElem?_map, hm]
            rfl
          have V := Lib.hid (And.intro hI (And.intro hmc (And.intro hcq (And.intro hE (And.intro hnl hpg)))))
          have i1 : (0 : Int) ≤ (j : Int) := by omega
          have i2 : (j : Int) < (n2 : Int) := by omega
          have hokm := cc_ok hok.c.p
          clear hI hm hcq hE hc hsoft hfp hnl hG hpg hok hmc rX
          go_wp2_with (fail)
          refine PT.out.mono ?_
          rintro e w3 ⟨rfl, Q', hT3, ho3, hk3⟩
          have D3 := V.out.2.2.2.1.move ho3 hk3 hT3
          by_cases hq0 : q = 0
          · have dq : (q == 0) = true := by rw [hq0]; rfl
            have dq2 : (q != 0) = false := by rw [hq0]; rfl
            have hnx := V.out.1.next V.out.2.1 (by rw [V.out.2.2.1]; exact hq0)
            rw [V.out.2.2.1, show n2 - (j + 1) + 1 = n2 - j by omega] at hnx
            have Y := Lib.hid (And.intro D3 (And.intro hnx (V.out.2.2.2.2.2 hq0)))
            clear D3 hq0 hT3 ho3 hk3 hnx hld x0 x1
            go_wp2_with (fail)
            go_roundw
            case rel => exact ⟨j, Q', rs2, by omega, by go_num, Y.out.2.1, Y.out.2.2, Y.out.1⟩
            case measure => simp [intOf]
          · have dq : (q == 0) = false := by simpa using hq0
            have dq2 : (q != 0) = true := by simpa using hq0
            have hst := V.out.1.stop V.out.2.1 (by rw [V.out.2.2.1]; exact hq0)
            rw [V.out.2.2.1] at hst
            have hr : backM ps (cns ks) xs = (ps, q) := (backM_put X.out.1 (by rw [hst]; exact hq0)).trans (by rw [hst])
            have bl := S.out.1.trans (hOB.out _ D3.only)
            have Y := Lib.hid (And.intro bl hr)
            clear D3 hq0 hst hr bl hT3 ho3 hk3 hld x0 x1
            go_wp2_with (fail)
            go_ret
            exact rputEnd.same H.out.1 Y.out.1 Y.out.2
        | 0, hj, hI =>
          rw [show (((0 : Nat) : Int) - 1) = (-1 : Int) by omega]
          have dd : decide ((-1 : Int) ≥ 0) = false := rfl
          have dd2 : decide (0 ≤ (-1 : Int)) = false := rfl
          have hpd := hI.done (by rw [List.length_reverse, hnl]; omega)
          have hdm := backM_done X.out.1 hpd
          obtain ⟨np, cp, xv, g1, g2, g5⟩ := rback_end S.out.1 H.out.1 hE (by omega) hdm
          have z1 := (row_cells g1 0).1
          have z2 := (row_cells g2 0).1
          have z3 := (row_cells g2 0).2
          have Y := Lib.hid g5
          clear hE hpd hI hnl hG hdm g1 g2 g5 rX x0 x1
          go_wp2_with (fail)
          go_ret
          exact Y.out
end Go.Proofs.Ytofclanljhfkiaa
/- UndoDoes: what it holds of memory; the comparison of two tables. -/
namespace Go.Proofs.Ytofclanljhfkiaa
open Go.RowKit Go.Proofs En Co
set_option linter.unusedVariables false
set_option linter.unusedSimpArgs false
set_option maxRecDepth 20000

section
variable {w wr w1 w' : World} {base b2 b g h n c m d : Nat} {P Q P' Q' A B : Option Addr} {ps ps' : List (List Cn)} {hs : List Cm} {xs : List Pt}
theorem FirmO.mono (hf : FirmO w base A) (hb : base ≤ b2) : FirmO w b2 A := fun k hk => by
  obtain ⟨h1, h2⟩ := hf k hk
  exact ⟨h1, h2.imp (fun h => Nat.lt_of_lt_of_le h hb) id⟩
theorem Firm.mono (hf : Firm w base A) (hb : base ≤ b2) : Firm w b2 A := fun k hk => by
  obtain ⟨h1, h2⟩ := hf k hk
  exact ⟨h1, h2.imp (fun h => Nat.lt_of_lt_of_le h hb) id⟩
theorem FirmK.mono (hf : FirmK w base A) (hb : base ≤ b2) : FirmK w b2 A := fun k hk => by
  obtain ⟨h1, h2⟩ := hf k hk
  exact ⟨h1, h2.imp (fun h => Nat.lt_of_lt_of_le h hb) id⟩
theorem FirmP.mono {x : Pg} (hf : FirmP w base x) (hb : base ≤ b2) : FirmP w b2 x := ⟨hf.arg, hf.row.mono hb, fun m hm h0 => (hf.lock m hm h0).mono hb⟩
theorem FirmQ.mono (hf : FirmQ w base B n c xs) (hb : base ≤ b2) : FirmQ w b2 B n c xs := ⟨hf.rd, hf.ok, hf.len, hf.cap, hf.max, hf.row.mono hb⟩
/-- an undo in a box, out of both tables' reach -/
structure UV (wr : World) (base b : Nat) (A : Option Addr) (n c : Nat) (hs : List Cm) (B : Option Addr) (m d : Nat) (xs : List Pt) : Prop where
  box : wr.heap[b]? = some (.cells #[.slice A n c, .slice B m d] 25 (0, 0))
  p : FirmP wr base ⟨A, n, c, hs⟩
  q : FirmQ wr base B m d xs
theorem UV.below (u : UV wr base b A n c hs B m d xs) (hb : Below wr.heap.size wr w') : UV w' base b A n c hs B m d xs := ⟨kept u.box hb, u.p.below hb, u.q.below hb⟩
theorem UV.soft (u : UV wr base b A n c hs B m d xs) (hS : Soft wr w' base g P) : UV w' base b A n c hs B m d xs :=
  ⟨(hS.block ⟨(Array.getElem?_eq_some_iff.1 u.box).1, .inr ⟨_, _, u.box, by decide, by decide, by decide⟩⟩).trans u.box, u.p.soft hS, u.q.soft hS⟩
theorem UV.mid (u : UV wr base b A n c hs B m d xs) (s : PairS wr base g P h Q ps) (o1 : Only wr w1 g P) : UV w1 base b A n c hs B m d xs := u.soft (Soft.tb s.t o1)
theorem UV.move (u : UV wr base b A n c hs B m d xs) (s : PairS wr base g P h Q ps) (o1 : Only wr w1 g P) (o2 : Only w1 w' h none) : UV w' base b A n c hs B m d xs :=
  (u.mid s o1).soft ((s.ref_after o1).soft_of o2)
theorem UV.c0 (u : UV wr base b A n c hs B m d xs) : wr.cell? ⟨b, 0, none⟩ = some (.slice A n c) := (row_cells u.box 0).1
theorem UV.c1 (u : UV wr base b A n c hs B m d xs) : wr.cell? ⟨b, 1, none⟩ = some (.slice B m d) := (row_cells u.box 1).1
/-- the program's change first, the reference's next -/
theorem PairS.next (s : PairS wr base g P h Q ps) (o1 : Only wr w1 g P) (t1 : Tb w1 base g P' ps') (k1 : Kept wr P P') (o2 : Only w1 w' h none) (r2 : RT w' base h Q' ps') (k2 : Kept w1 Q Q') : PairS w' base g P' h Q' ps' := by
  have hS := Soft.tb s.t o1
  have r1 := s.r.soft hS (s.t.ne_rt s.r) s.sep
  obtain ⟨xs, hx⟩ := r1.struct
  refine ⟨t1.ref o2 hx, r2, fun k hk hk2 => ?_⟩
  rcases k2 with h1 | h1
  · rw [h1] at hk2
    rcases k1 with h3 | h3
    · rw [h3] at hk; exact s.sep k hk hk2
    · have := h3 k hk
      have := (s.r.qlow k hk2).2
      omega
  · have := h1 k hk2
    have := (t1.plow k hk).2
    omega
theorem PairS.frame {L : Nat} (s : PairS wr base g P h Q ps) (hL : L ≤ base) (o1 : Only wr w1 g P) (o2 : Only w1 w' h none) : Below L wr w' := by
  have h1 := s.t.low
  have h2 := s.r.glow
  have h3 := o1.size
  exact (o1.below (base := L) (by omega) (by omega) (fun k hk => by have := (s.t.plow k hk).1; omega)).trans (o2.below (base := L) (by omega) (by omega) (fun k hk => by cases hk))
theorem PairS.good (s : PairS wr base g P h Q ps) : GoodT ps := ⟨⟨s.t.pos, s.t.most⟩, s.t.rise⟩
end

set_option maxRecDepth 20000 in
set_option maxHeartbeats 4000000 in
theorem alike25_any {w : World} {b1 g b2 g2 : Nat} {P Q : Option Addr} {ps : List (List Cn)} (ht : Tb w b1 g P ps) (hr : RT w b2 g2 Q ps) :
    Calls Try.prog 51 #[ptr g, ptr g2] w fun e w' => e = .returned (.bool true) ∧ Below w.heap.size w w' := by
  have hm1 := ht.most
  have hm2 := ht.many
  have BY := bytes_m ht
  obtain ⟨tb, htb⟩ : ∃ tb, tableF ps = tb := ⟨_, rfl⟩
  rw [htb] at BY
  have BY := Lib.hid BY
  have H := Lib.hid (And.intro hr htb)
  clear ht hr htb
  go_enter Try.func51, Try.ntmps51
  go_wp2_with (fail)
  refine BY.out.mono ?_
  rintro e w8 ⟨A8, k8, rfl, ho8, hb8⟩
  have RB := rbytes_m (H.out.1.below hb8) (by omega) (by omega)
  rw [H.out.2] at RB
  have RB := Lib.hid RB
  have B8 := Lib.hid (And.intro hb8 ho8)
  clear hb8 ho8
  go_wp2_with (fail)
  refine RB.out.mono ?_
  rintro e w9 ⟨A9, k9, rfl, ho9, hb9⟩
  have hlc := Own.len_cap ho9
  have S0 := same_is (r := true) (c := k8) (d := k9) (B8.out.2.below hb9).rd ho9.rd (by have := hlc.1; have := hlc.2; unfold maxLen at *; omega) (decide_eq_true rfl)
  have S0 := Lib.hid S0
  have B9 := Lib.hid (bThen B8.out.1 hb9)
  clear hb9 ho9 hlc
  go_wp2_with (fail)
  refine S0.out.mono ?_
  rintro e w10 ⟨rfl, hb10⟩
  have B10 := Lib.hid (bThen B9.out hb10)
  clear hb10
  go_wp2_with (fail)
  go_ret
  exact ⟨rfl, B10.out⟩
end Go.Proofs.Ytofclanljhfkiaa
