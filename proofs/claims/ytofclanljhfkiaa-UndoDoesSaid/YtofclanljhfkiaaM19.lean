/- Joined texts: TbR, TbS, TbT, TbU, TbV. -/
import Derived.Test.YtofclanljhfkiaaM18
import Derived.Deep.RegionHeld3
import Derived.Deep.RegionLaw
/- The reference's table in memory; what changes elsewhere leave of it. -/
namespace Go.Proofs.Ytofclanljhfkiaa
open Go.RowKit Go.Proofs En Co
set_option linter.unusedVariables false
set_option linter.unusedSimpArgs false
set_option maxRecDepth 20000

/-- a block that no table's change reaches: an elder one, or one of another kind -/
def FirmO (w : World) (base : Nat) (A : Option Addr) : Prop := ∀ k, blk A = some k → k < w.heap.size ∧ (k < base ∨ ∃ xs T, w.heap[k]? = some (.cells xs T (0, 0)) ∧ T ≠ 29 ∧ T ≠ 22 ∧ T ≠ 124)
/-- the same, and no row of points -/
def Firm (w : World) (base : Nat) (A : Option Addr) : Prop := ∀ k, blk A = some k → k < w.heap.size ∧ (k < base ∨ ∃ xs T, w.heap[k]? = some (.cells xs T (0, 0)) ∧ T ≠ 29 ∧ T ≠ 22 ∧ T ≠ 124 ∧ T ≠ 54 ∧ T ≠ 25)
/-- the same, and no row of coins: a lock's -/
def FirmK (w : World) (base : Nat) (A : Option Addr) : Prop := ∀ k, blk A = some k → k < w.heap.size ∧ (k < base ∨ ∃ xs T, w.heap[k]? = some (.cells xs T (0, 0)) ∧ T ≠ 29 ∧ T ≠ 22 ∧ T ≠ 124 ∧ T ≠ 54 ∧ T ≠ 25 ∧ T ≠ 57)
theorem Firm.o {w : World} {base : Nat} {A : Option Addr} (h : Firm w base A) : FirmO w base A := fun k hk => by
  obtain ⟨h1, h2⟩ := h k hk
  rcases h2 with h2 | ⟨xs, T, h3, h4, h5, h6, _⟩
  · exact ⟨h1, .inl h2⟩
  · exact ⟨h1, .inr ⟨xs, T, h3, h4, h5, h6⟩⟩
theorem FirmK.f {w : World} {base : Nat} {A : Option Addr} (h : FirmK w base A) : Firm w base A := fun k hk => by
  obtain ⟨h1, h2⟩ := h k hk
  rcases h2 with h2 | ⟨xs, T, h3, h4, h5, h6, h7, h8, _⟩
  · exact ⟨h1, .inl h2⟩
  · exact ⟨h1, .inr ⟨xs, T, h3, h4, h5, h6, h7, h8⟩⟩
theorem FirmO.below {w w' : World} {base : Nat} {A : Option Addr} (h : FirmO w base A) (hb : Below w.heap.size w w') : FirmO w' base A := fun k hk => by
  obtain ⟨h1, h2⟩ := h k hk
  refine ⟨Nat.lt_of_lt_of_le h1 hb.size, ?_⟩
  rcases h2 with h2 | ⟨xs, T, h3, h4⟩
  · exact .inl h2
  · exact .inr ⟨xs, T, kept h3 hb, h4⟩
theorem FirmO.none (w : World) (base : Nat) : FirmO w base none := fun k hk => by cases hk
theorem Firm.below {w w' : World} {base : Nat} {A : Option Addr} (h : Firm w base A) (hb : Below w.heap.size w w') : Firm w' base A := fun k hk => by
  obtain ⟨h1, h2⟩ := h k hk
  refine ⟨Nat.lt_of_lt_of_le h1 hb.size, ?_⟩
  rcases h2 with h2 | ⟨xs, T, h3, h4⟩
  · exact .inl h2
  · exact .inr ⟨xs, T, kept h3 hb, h4⟩
theorem Firm.none (w : World) (base : Nat) : Firm w base none := fun k hk => by cases hk
theorem FirmK.below {w w' : World} {base : Nat} {A : Option Addr} (h : FirmK w base A) (hb : Below w.heap.size w w') : FirmK w' base A := fun k hk => by
  obtain ⟨h1, h2⟩ := h k hk
  refine ⟨Nat.lt_of_lt_of_le h1 hb.size, ?_⟩
  rcases h2 with h2 | ⟨xs, T, h3, h4⟩
  · exact .inl h2
  · exact .inr ⟨xs, T, kept h3 hb, h4⟩
theorem FirmK.none (w : World) (base : Nat) : FirmK w base none := fun k hk => by cases hk
theorem FirmO.own {w : World} {base b2 : Nat} {e : TypeId} {size : Nat} {G : Value → Prop} {A : Option Addr} {n c : Nat} {cs : List Value} (h : Own w b2 e size G A n c cs) (h1 : e ≠ 29) (h2 : e ≠ 22) (h3 : e ≠ 124) : FirmO w base A := fun k hk => by
  refine ⟨(Own.lt h k hk).2, .inr ?_⟩
  rcases h.2 with ⟨rfl, _⟩ | ⟨g, cur, rfl, _, hg, _⟩
  · cases hk
  · have e : g = k := by simpa [blk] using hk
    subst e
    exact ⟨cur, _, hg, h1, h2, h3⟩
theorem Firm.own {w : World} {base b2 : Nat} {e : TypeId} {size : Nat} {G : Value → Prop} {A : Option Addr} {n c : Nat} {cs : List Value} (h : Own w b2 e size G A n c cs) (h1 : e ≠ 29) (h2 : e ≠ 22) (h3 : e ≠ 124) (h4 : e ≠ 54) (h5 : e ≠ 25) : Firm w base A := fun k hk => by
  refine ⟨(Own.lt h k hk).2, .inr ?_⟩
  rcases h.2 with ⟨rfl, _⟩ | ⟨g, cur, rfl, _, hg, _⟩
  · cases hk
  · have e : g = k := by simpa [blk] using hk
    subst e
    exact ⟨cur, _, hg, h1, h2, h3, h4, h5⟩
theorem FirmK.own {w : World} {base b2 : Nat} {e : TypeId} {size : Nat} {G : Value → Prop} {A : Option Addr} {n c : Nat} {cs : List Value} (h : Own w b2 e size G A n c cs) (h1 : e ≠ 29) (h2 : e ≠ 22) (h3 : e ≠ 124) (h4 : e ≠ 54) (h5 : e ≠ 25) (h6 : e ≠ 57) : FirmK w base A := fun k hk => by
  refine ⟨(Own.lt h k hk).2, .inr ?_⟩
  rcases h.2 with ⟨rfl, _⟩ | ⟨g, cur, rfl, _, hg, _⟩
  · cases hk
  · have e : g = k := by simpa [blk] using hk
    subst e
    exact ⟨cur, _, hg, h1, h2, h3, h4, h5, h6⟩
/-- an elder slice: its block was there at the beginning, if it has any element -/
theorem Firm.sub {w : World} {base : Nat} {A B : Option Addr} (h : Firm w base A) (he : ∀ k, blk B = some k → blk A = some k) : Firm w base B := fun k hk => h k (he k hk)
/-- a lock: of no bytes, or firm -/
def FirmL (w : World) (base : Nat) (m : Cm) : Prop := 0 < m.c.l.length → FirmK w base m.A
theorem FirmL.below {w w' : World} {base : Nat} {m : Cm} (h : FirmL w base m) (hb : Below w.heap.size w w') : FirmL w' base m := fun h0 => (h h0).below hb

/-- a change that leaves all firm blocks: one block g of one of the two kinds of tables, one row of pages, from base on -/
structure Soft (w w' : World) (base g : Nat) (P : Option Addr) : Prop where
  only : Only w w' g P
  g0 : base ≤ g
  P0 : ∀ k, blk P = some k → base ≤ k
  kg : ∃ xs T, w.heap[g]? = some (.cells xs T (0, 0)) ∧ (T = 29 ∨ T = 124)
  kP : ∀ k, blk P = some k → ∃ xs, w.heap[k]? = some (.cells xs 22 (0, 0))
theorem Soft.of {w w' : World} {base g : Nat} {P : Option Addr} (ho : Only w w' g P) (hk : Kinds w g P) (h1 : base ≤ g) (h2 : ∀ k, blk P = some k → base ≤ k) : Soft w w' base g P := by
  obtain ⟨⟨xs, h3⟩, h4⟩ := hk
  exact ⟨ho, h1, h2, ⟨xs, _, h3, .inl rfl⟩, h4⟩
theorem Soft.tb {w w' : World} {base g : Nat} {P : Option Addr} {ps : List (List Cn)} (h : Tb w base g P ps) (ho : Only w w' g P) : Soft w w' base g P := Soft.of ho h.kinds h.low.1 (fun k hk => (h.plow k hk).1)
section
variable {w w' : World} {base g : Nat} {P A : Option Addr}
theorem Soft.block (h : Soft w w' base g P) {k : Nat} (hf : k < w.heap.size ∧ (k < base ∨ ∃ xs T, w.heap[k]? = some (.cells xs T (0, 0)) ∧ T ≠ 29 ∧ T ≠ 22 ∧ T ≠ 124)) : w'.heap[k]? = w.heap[k]? := by
  refine h.only.block k hf.1 (fun e => ?_) (fun e => ?_)
  · subst e
    rcases hf.2 with h1 | ⟨xs, T, h1, h2, h3, h4⟩
    · have := h.g0; omega
    · obtain ⟨ys, U, h5, h6⟩ := h.kg
      rw [h1] at h5
      injection h5 with h5
      injection h5 with _ h5
      rcases h6 with h6 | h6
      · exact h2 (h5.trans h6)
      · exact h4 (h5.trans h6)
  · rcases hf.2 with h1 | ⟨xs, T, h1, h2, h3, h4⟩
    · have := h.P0 k e; omega
    · obtain ⟨ys, h5⟩ := h.kP k e
      rw [h1] at h5
      injection h5 with h5
      injection h5 with _ h5
      exact h3 h5
theorem FirmO.soft (hf : FirmO w base A) (h : Soft w w' base g P) : FirmO w' base A := fun k hk => by
  have h1 := hf k hk
  refine ⟨Nat.lt_of_lt_of_le h1.1 h.only.size, ?_⟩
  rcases h1.2 with h2 | ⟨xs, T, h3, h4⟩
  · exact .inl h2
  · exact .inr ⟨xs, T, (h.block h1).trans h3, h4⟩
theorem Firm.soft (hf : Firm w base A) (h : Soft w w' base g P) : Firm w' base A := fun k hk => by
  have h1 := hf k hk
  refine ⟨Nat.lt_of_lt_of_le h1.1 h.only.size, ?_⟩
  rcases h1.2 with h2 | ⟨xs, T, h3, h4⟩
  · exact .inl h2
  · exact .inr ⟨xs, T, (h.block (hf.o k hk)).trans h3, h4⟩
theorem FirmK.soft (hf : FirmK w base A) (h : Soft w w' base g P) : FirmK w' base A := fun k hk => by
  have h1 := hf k hk
  refine ⟨Nat.lt_of_lt_of_le h1.1 h.only.size, ?_⟩
  rcases h1.2 with h2 | ⟨xs, T, h3, h4⟩
  · exact .inl h2
  · exact .inr ⟨xs, T, (h.block (hf.f.o k hk)).trans h3, h4⟩
theorem Rd.soft {size n : Nat} {cs : List Value} (hr : Rd w size A n cs) (hf : 0 < n → FirmO w base A) (h : Soft w w' base g P) : Rd w' size A n cs := by
  refine ⟨hr.1, fun h0 => ?_⟩
  obtain ⟨ad, e, hb, hc⟩ := hr.2 h0
  refine ⟨ad, e, Nat.lt_of_lt_of_le hb h.only.size, fun j u hu => ?_⟩
  rw [← hc j u hu]
  exact World.cell?_of_block (by rw [block_add]; exact h.block (hf h0 ad.block (by rw [e]; rfl)))
theorem Cm.soft {m : Cm} (hm : m.ok w) (hf : FirmL w base m) (h : Soft w w' base g P) : m.ok w' :=
  ⟨hm.c, Rd.soft hm.arg.rd (fun h0 => (hf h0).f.o) h, hm.arg.isB, hm.arg.cap, hm.arg.top, hm.arg.len⟩
end

/-- coins in a row that no table's change reaches -/
structure FirmP (w : World) (base : Nat) (x : Pg) : Prop where
  arg : ArgP w x.A x.n x.c x.hs
  row : Firm w base x.A
  lock : ∀ m ∈ x.hs, FirmL w base m
theorem FirmP.below {w w' : World} {base : Nat} {x : Pg} (h : FirmP w base x) (hb : Below w.heap.size w w') : FirmP w' base x := ⟨h.arg.below hb, h.row.below hb, fun m hm => (h.lock m hm).below hb⟩
theorem FirmP.soft {w w' : World} {base g : Nat} {P : Option Addr} {x : Pg} (h : FirmP w base x) (hs : Soft w w' base g P) : FirmP w' base x :=
  ⟨⟨Rd.soft h.arg.rd (fun _ => h.row.o) hs, fun m hm => Cm.soft (h.arg.ok m hm) (h.lock m hm) hs, h.arg.len, h.arg.cap, h.arg.max⟩, h.row.soft hs, fun m hm h0 => (h.lock m hm h0).soft hs⟩
/-- the reference's table: its struct, its row of pages, its pages -/
structure RT (w : World) (base g : Nat) (Q : Option Addr) (ps : List (List Cn)) : Prop where
  low : base ≤ g
  ex : ∃ (np cp : Nat) (gs : List Pg), w.heap[g]? = some (.cells #[.slice Q np cp] 124 (0, 0)) ∧ Rd w 1 Q np (gs.map Pg.cell) ∧ np ≤ cp ∧ cp ≤ maxLen ∧ (∀ x ∈ gs, FirmP w base x) ∧ pgsOf gs = ps ∧
    ∀ k, blk Q = some k → base ≤ k ∧ k < w.heap.size ∧ ∃ xs, w.heap[k]? = some (.cells xs 22 (0, 0))
section
variable {w w' : World} {base g g2 : Nat} {P Q : Option Addr} {ps : List (List Cn)}
theorem RT.below (h : RT w base g Q ps) (hb : Below w.heap.size w w') : RT w' base g Q ps := by
  obtain ⟨np, cp, gs, h1, h2, h3, h4, h5, h6, h7⟩ := h.ex
  exact ⟨h.low, np, cp, gs, kept h1 hb, h2.below hb, h3, h4, fun x hx => (h5 x hx).below hb, h6, fun k hk => by
    obtain ⟨k1, k2, xs, k3⟩ := h7 k hk
    exact ⟨k1, Nat.lt_of_lt_of_le k2 hb.size, xs, kept k3 hb⟩⟩
/-- behind a change to another table -/
theorem RT.soft (h : RT w base g Q ps) (hs : Soft w w' base g2 P) (hg : g ≠ g2) (hQ : ∀ k, blk P = some k → blk Q ≠ some k) : RT w' base g Q ps := by
  obtain ⟨np, cp, gs, h1, h2, h3, h4, h5, h6, h7⟩ := h.ex
  have hrow : ∀ k, blk Q = some k → w'.heap[k]? = w.heap[k]? := fun k hk => by
    obtain ⟨k1, k2, xs, k3⟩ := h7 k hk
    refine hs.only.block k k2 (fun e => ?_) (fun e => hQ k e hk)
    subst e
    obtain ⟨ys, T, k4, k5⟩ := hs.kg
    rw [k3] at k4
    injection k4 with k4
    injection k4 with _ k4
    rcases k5 with k5 | k5
    · rw [k5] at k4; exact absurd k4 (by decide)
    · rw [k5] at k4; exact absurd k4 (by decide)
  refine ⟨h.low, np, cp, gs, ?_, ⟨h2.1, fun h0 => ?_⟩, h3, h4, fun x hx => (h5 x hx).soft hs, h6, fun k hk => ?_⟩
  · refine (hs.only.block g (Array.getElem?_eq_some_iff.1 h1).1 hg (fun e => ?_)).trans h1
    obtain ⟨ys, k4⟩ := hs.kP g e
    rw [h1] at k4
    injection k4 with k4
    injection k4 with _ k4
    exact absurd k4 (by decide)
  · obtain ⟨ad, e, hb, hc⟩ := h2.2 h0
    refine ⟨ad, e, Nat.lt_of_lt_of_le hb hs.only.size, fun j u hu => ?_⟩
    rw [← hc j u hu]
    exact World.cell?_of_block (by rw [block_add]; exact hrow ad.block (by rw [e]; rfl))
  · obtain ⟨k1, k2, xs, k3⟩ := h7 k hk
    exact ⟨k1, Nat.lt_of_lt_of_le k2 hs.only.size, xs, (hrow k hk).trans k3⟩
/-- the program's table behind a change to the reference's -/
theorem Tb.ref {gr : Nat} (h : Tb w base g P ps) (ho : Only w w' gr none) {xs : Array Value} (hk : w.heap[gr]? = some (.cells xs 124 (0, 0))) : Tb w' base g P ps := by
  obtain ⟨np, cp, gs, h, e⟩ := h
  have hrow : ∀ {e : TypeId} {size : Nat} {G : Value → Prop} {A : Option Addr} {n c : Nat} {cs : List Value}, Own w base e size G A n c cs → e ≠ 124 → Own w' base e size G A n c cs := fun hq hne =>
    Own.keep hq fun i hi => ho.block i (Own.lt hq i hi).2 (fun e => by subst e; exact Own.ne_block hq hk hne hi) (fun e => by cases e)
  refine ⟨np, cp, gs, ⟨h.low, ?_, hrow h.pages (by decide), fun x hx => ⟨⟨hrow (h.own x hx).1.row (by decide), fun m hm => ⟨((h.own x hx).1.ok m hm).1, hrow ((h.own x hx).1.ok m hm).2.1 (by decide), ((h.own x hx).1.ok m hm).2.2⟩, (h.own x hx).1.len⟩, (h.own x hx).2⟩, h.up, h.most⟩, e⟩
  refine (ho.block g (Array.getElem?_eq_some_iff.1 h.row).1 (fun e => ?_) (fun e => by cases e)).trans h.row
  subst e
  rw [h.row] at hk
  injection hk with hk
  injection hk with _ hk
  exact absurd hk (by decide)
theorem RT.struct (h : RT w base g Q ps) : ∃ xs, w.heap[g]? = some (.cells xs 124 (0, 0)) := by
  obtain ⟨np, cp, gs, h1, _⟩ := h.ex
  exact ⟨_, h1⟩
theorem RT.soft_of (h : RT w base g Q ps) (ho : Only w w' g none) : Soft w w' base g none := by
  obtain ⟨xs, h1⟩ := h.struct
  exact ⟨ho, h.low, fun k hk => (by cases hk), ⟨xs, _, h1, .inr rfl⟩, fun k hk => (by cases hk)⟩
end
end Go.Proofs.Ytofclanljhfkiaa
/- The reference's table: New, Len, All, Page, Sum, Get. -/
namespace Go.Proofs.Ytofclanljhfkiaa
open Go.RowKit Go.Proofs En Co
set_option linter.unusedVariables false
set_option linter.unusedSimpArgs false
set_option maxRecDepth 20000
attribute [local go_sem ↓] ld_point_eq ld_coin_eq ld_hash_eq st_point_eq st_coin_eq bd_point_eq bd_coin_eq eq_point_eq ne_point_eq al_coin_eq al_point_eq bs_coin_eq
attribute [local go_sem] ld_point_run ld_coin_run ld_hash_run st_point_run st_coin_run bd_point_zero bd_coin_zero bd_point_of bd_coin_of hash_at rowIs_34 rowIs_37 rowIs_both hasAt_both cellsAt_both eq_point_run ne_point_run guard_pt al_coin_run al_point_run al_coin_row al_point_row nil_bytes nil_coins bs_coin_run

theorem rnew_m (w : World) : Calls Try.prog 44 #[] w fun e w' => e = .returned (ptr w.heap.size) ∧ RT w' w.heap.size w.heap.size none [] ∧ Below w.heap.size w w' := by
  go_enter Try.func44, Try.ntmps44
  go_wp2_with (fail)
  go_ret
  exact ⟨rfl, ⟨Nat.le_refl _, 0, 0, [], heap_alloc_new w _, Rd.nil _ _ _, Nat.le_refl _, Nat.zero_le _, (fun _ h => by cases h), rfl, fun k hk => (by cases hk)⟩, (Below.refl _ _).alloc (Nat.le_refl _) _⟩

theorem rd_page {w : World} {Q : Option Addr} {np : Nat} {gs : List Pg} (h : Rd w 1 Q np (gs.map Pg.cell)) {k : Nat} (hk : k < np) : ∃ ad x, Q = some ad ∧ gs[k]? = some x ∧ ad.block < w.heap.size ∧ w.cell? (ad.add k) = some (.slice x.A x.n x.c) := by
  obtain ⟨ad, e, h1, h2⟩ := h.one hk
  have hl : k < gs.length := by have := h.1; rw [List.length_map] at this; omega
  refine ⟨ad, gs[k], e, List.getElem?_eq_getElem hl, h1, ?_⟩
  rw [h2, List.getElem?_map, List.getElem?_eq_getElem hl]; rfl
theorem allC_next {gs : List Pg} {j : Nat} {x : Pg} (h : gs[j]? = some x) : allC (gs.take (j + 1)) = allC (gs.take j) ++ x.hs := by
  rw [take_next h, allC_app]
  show _ ++ (x.hs ++ []) = _
  rw [List.append_nil]
theorem allC_take_le (gs : List Pg) (j : Nat) : (allC (gs.take j)).length ≤ (allC gs).length := by
  have h : (allC gs).length = (allC (gs.take j)).length + (allC (gs.drop j)).length := by
    rw [← List.length_append, ← allC_app, List.take_append_drop]
  omega

set_option maxRecDepth 20000 in
set_option maxHeartbeats 1000000 in
theorem rlen_m {w : World} {base g : Nat} {Q : Option Addr} {ps : List (List Cn)} (h : RT w base g Q ps) (hb : ps.flatten.length ≤ 1000000) (hb2 : ps.length ≤ 1000000) :
    Calls Try.prog 82 #[ptr g] w fun e w' => e = .returned (.int .i64 ps.flatten.length) ∧ w' = w := by
  obtain ⟨np, cp, gs, h1, h2, h3, h4, h5, h6, h7⟩ := h.ex
  have c1 : w.cell? ⟨g, 0, none⟩ = some (.slice Q np cp) := (row_cells h1 0).1
  have hnp : gs.length = np := by have := h2.1; rw [List.length_map] at this; omega
  have hnp2 : np ≤ 1000000 := by rw [← h6, pgsOf_length] at hb2; omega
  have hfl : ps.flatten.length = (allC gs).length := by rw [← h6, ← allC_len]
  rw [hfl] at hb ⊢
  have HT := Lib.hid (And.intro h2 (And.intro h5 (And.intro hnp (And.intro h3 h4))))
  clear h h1 h2 h5 h6 h7 hnp hfl
  go_enter Try.func82, Try.ntmps82
  go_wp2_with (fail)
  go_loopw [3, 4] (fun v i wr => ∃ j : Nat, j ≤ np ∧ i = .int .i64 j ∧ v = .int .i64 (allC (gs.take j)).length ∧ w = wr) (fun _ i _ => np - (intOf i).toNat)
  case atStart => exact ⟨0, by omega, rfl, rfl, rfl⟩
  case round =>
    obtain ⟨j, hj, rfl, rfl, rfl⟩ := hrel
    by_cases hlt : j < np
    · obtain ⟨ad, x, rfl, hx, hbk, hc⟩ := rd_page HT.out.1 hlt
      have d1 : decide ((j : Int) < (np : Int)) = true := decide_eq_true (by omega)
      have i1 : (0 : Int) ≤ (j : Int) := by omega
      have i2 : (j : Int) < (np : Int) := by omega
      have hxl := (HT.out.2.1 x (List.mem_of_getElem? hx)).arg.len
      have hn : (allC (gs.take (j + 1))).length = (allC (gs.take j)).length + x.n := by rw [allC_next hx, List.length_append, hxl]
      have hle := allC_take_le gs (j + 1)
      obtain ⟨q, hq⟩ : ∃ q, (allC (gs.take j)).length = q := ⟨_, rfl⟩
      rw [hq] at hn
      rw [hq]
      have hw : IntKind.i64.wrap ((q : Int) + (x.n : Int)) = (q : Int) + (x.n : Int) := wrap_i64s (by omega)
      have X := Lib.hid hn
      clear hx hxl hn hq
      go_wp2_with (fail)
      go_roundw
      case rel => exact ⟨j + 1, by omega, by go_num, by rw [X.out]; go_num, trivial⟩
      case measure => simp [intOf]; omega
    · obtain rfl : np = j := by omega
      have e : gs.take np = gs := List.take_of_length_le (by rw [HT.out.2.2.1]; exact Nat.le_refl _)
      rw [e]
      have d1 : decide ((np : Int) < (np : Int)) = false := decide_eq_false (by omega)
      clear e
      go_wp2_with (fail)
      go_ret
      exact ⟨rfl, rfl⟩

set_option maxRecDepth 20000 in
set_option maxHeartbeats 1000000 in
theorem rall_m {w0 w : World} {base g : Nat} {Q : Option Addr} {ps : List (List Cn)} (h : RT w0 base g Q ps) (h0 : Below w0.heap.size w0 w) (hb : ps.flatten.length ≤ 1000000) (hb2 : ps.length ≤ 1000000) :
    Calls Try.prog 80 #[ptr g] w fun e w' => ∃ x : Pg, e = .returned (.slice x.A x.n x.c) ∧ cns x.hs = ps.flatten ∧ FirmP w' base x ∧ Below w.heap.size w w' ∧ ∃ b2, w.heap.size ≤ b2 ∧ Own w' b2 57 37 (fun _ => True) x.A x.n x.c (pcs x.hs) ∧ ∀ m ∈ x.hs, m.ok w0 ∧ FirmL w0 base m := by
  obtain ⟨np, cp, gs, h1, h2, h3, h4, h5, h6, h7⟩ := h.ex
  have H5 := Lib.hid h5
  have h1 := kept h1 h0
  have h2 := h2.below h0
  have h5 : ∀ x ∈ gs, FirmP w base x := fun x hx => (h5 x hx).below h0
  have c1 : w.cell? ⟨g, 0, none⟩ = some (.slice Q np cp) := (row_cells h1 0).1
  have hnp : gs.length = np := by have := h2.1; rw [List.length_map] at this; omega
  have hnp2 : np ≤ 1000000 := by rw [← h6, pgsOf_length] at hb2; omega
  have hfl : ps.flatten = cns (allC gs) := by rw [← h6, pgsOf_flat]
  have hfn : ps.flatten.length = (allC gs).length := by rw [hfl, cns_length]
  rw [hfn] at hb
  have HT := Lib.hid (And.intro h2 (And.intro h5 (And.intro hnp (And.intro h1 hfl))))
  clear h h2 h5 h6 h7 hnp hfl hfn
  go_enter Try.func80, Try.ntmps80
  go_wp2_with (fail)
  go_loopw [3, 4] (fun v i wr => ∃ j : Nat, j ≤ np ∧ i = .int .i64 j ∧ (∃ A k q, v = .slice A q k ∧ q = (allC (gs.take j)).length ∧ Own wr w.heap.size 57 37 (fun _ => True) A q k (pcs (allC (gs.take j)))) ∧ Below w.heap.size w wr) (fun _ i _ => np - (intOf i).toNat)
  case atStart => exact ⟨0, by omega, rfl, ⟨none, 0, 0, rfl, rfl, Own.nil _ _ _ _ _⟩, Below.refl _ _⟩
  case round =>
    obtain ⟨j, hj, rfl, ⟨A, k, q, rfl, hq, ho⟩, hbel⟩ := hrel
    have cr := cell_keep c1 hbel
    by_cases hlt : j < np
    · obtain ⟨ad, x, rfl, hx, hbk, hc⟩ := rd_page (HT.out.1.below hbel) hlt
      have d1 : decide ((j : Int) < (np : Int)) = true := decide_eq_true (by omega)
      have i1 : (0 : Int) ≤ (j : Int) := by omega
      have i2 : (j : Int) < (np : Int) := by omega
      have hxp := (HT.out.2.1 x (List.mem_of_getElem? hx)).below hbel
      have hn : (allC (gs.take (j + 1))).length = q + x.n := by rw [allC_next hx, List.length_append, hxp.arg.len, hq]
      have hpc : pcs (allC (gs.take (j + 1))) = pcs (allC (gs.take j)) ++ pcs x.hs := by rw [allC_next hx, pcs_append]
      have hle := allC_take_le gs (j + 1)
      have hz := hbel.size
      have hqn : q + x.n ≤ 1000000 := by omega
      have X := Lib.hid (And.intro hn (And.intro hpc (And.intro ho (And.intro hbel hxp))))
      clear hx hxp hn hpc ho hbel hq
      go_wp2_with (at_builtin; refine Stop.mk ?_)
      refine Stop.out ?_
      refine appC _ rfl (.tmp 14) (.tmp 21) rfl w.heap.size A q k _ rfl X.out.2.2.1 ⟨x.A, x.n, x.c, pcs x.hs⟩ rfl ⟨X.out.2.2.2.2.arg.rd, pcs_one⟩ (by show q + x.n ≤ _; omega) hz ?_
      intro A4 k4 w4 ho4 hg4
      have hb4 : Below w.heap.size w w4 := X.out.2.2.2.1.grown hg4 hz (fun g hg => (Own.lt X.out.2.2.1 g hg).1)
      have Y := Lib.hid (And.intro ho4 hb4)
      clear ho4 hb4 hg4
      go_wp2_with (fail)
      go_roundw
      case rel => exact ⟨j + 1, by omega, by go_num, ⟨A4, k4, q + x.n, rfl, X.out.1.symm, by rw [X.out.2.1]; exact Y.out.1⟩, Y.out.2⟩
      case measure => simp [intOf]; omega
    · obtain rfl : np = j := by omega
      have e : gs.take np = gs := List.take_of_length_le (by rw [HT.out.2.2.1]; exact Nat.le_refl _)
      rw [e] at ho hq
      have d1 : decide ((np : Int) < (np : Int)) = false := decide_eq_false (by omega)
      have Y := Lib.hid (And.intro ho (And.intro hbel hq))
      clear e ho hbel hq
      go_wp2_with (fail)
      go_ret
      have hq := Y.out.2.2
      refine ⟨⟨A, q, k, allC gs⟩, rfl, HT.out.2.2.2.2.symm, ⟨⟨Y.out.1.rd, fun m hm => ?_, hq.symm, (Own.len_cap Y.out.1).1, (Own.len_cap Y.out.1).2⟩, Firm.own Y.out.1 (by decide) (by decide) (by decide) (by decide) (by decide), fun m hm => ?_⟩, Y.out.2.1, w.heap.size, Nat.le_refl _, Y.out.1, fun m hm => ?_⟩
      · obtain ⟨x, hx, hmx⟩ := mem_allC hm
        exact ((HT.out.2.1 x hx).arg.ok m hmx).below Y.out.2.1
      · obtain ⟨x, hx, hmx⟩ := mem_allC hm
        exact ((HT.out.2.1 x hx).lock m hmx).below Y.out.2.1
      · obtain ⟨x, hx, hmx⟩ := mem_allC hm
        exact ⟨(H5.out x hx).arg.ok m hmx, (H5.out x hx).lock m hmx⟩

set_option maxRecDepth 20000 in
set_option maxHeartbeats 1000000 in
theorem rpage_m {w : World} {base g : Nat} {Q : Option Addr} {ps : List (List Cn)} (h : RT w base g Q ps) (n : Int) :
    Calls Try.prog 81 #[ptr g, .int .i64 n] w fun e w' => w' = w ∧ ∃ x : Pg, e = .returned (.tuple #[.slice x.A x.n x.c, .int .i64 (pageM ps n).2]) ∧ cns x.hs = (pageM ps n).1 ∧ FirmP w base x := by
  obtain ⟨np, cp, gs, h1, h2, h3, h4, h5, h6, h7⟩ := h.ex
  have c1 : w.cell? ⟨g, 0, none⟩ = some (.slice Q np cp) := (row_cells h1 0).1
  have hnp : gs.length = np := by have := h2.1; rw [List.length_map] at this; omega
  have hpl : ps.length = np := by rw [← h6, pgsOf_length, hnp]
  have hnil : FirmP w base ⟨none, 0, 0, []⟩ := ⟨⟨Rd.nil _ _ _, (fun _ h => by cases h), rfl, Nat.le_refl _, Nat.zero_le _⟩, Firm.none _ _, fun _ h => by cases h⟩
  by_cases hneg : n < 0
  · have d1 : decide (n < 0) = true := decide_eq_true hneg
    have e : pageM ps n = ([], 6) := by unfold pageM; rw [if_neg (by omega)]
    rw [e]
    have HN := Lib.hid hnil
    clear h h1 h2 h5 h6 h7 hnil e
    go_enter Try.func81, Try.ntmps81
    go_wp2_with (fail)
    go_ret2
    exact ⟨rfl, ⟨none, 0, 0, []⟩, rfl, rfl, HN.out⟩
  · obtain ⟨k, rfl⟩ := Int.eq_ofNat_of_zero_le (show 0 ≤ n by omega)
    have d1 : decide ((k : Int) < 0) = false := decide_eq_false (by omega)
    by_cases hk : k < np
    · obtain ⟨ad, x, rfl, hx, hbk, hc⟩ := rd_page h2 hk
      have d2 : decide ((k : Int) ≥ (np : Int)) = false := decide_eq_false (by omega)
      have d2b : decide (np ≤ k) = false := decide_eq_false (by omega)
      have d2c : ¬ (np ≤ k) := by omega
      have i1 : (0 : Int) ≤ (k : Int) := by omega
      have i2 : (k : Int) < (np : Int) := by omega
      have e : pageM ps k = (cns x.hs, 0) := by
        unfold pageM
        rw [if_pos (by omega), Int.toNat_natCast, ← h6, pgsOf_get hx]
      rw [e]
      have HX := Lib.hid (h5 x (List.mem_of_getElem? hx))
      clear h h1 h2 h5 h6 h7 hnil e hx hneg
      go_enter Try.func81, Try.ntmps81
      go_wp2_with (fail)
      go_ret2
      exact ⟨rfl, x, rfl, rfl, HX.out⟩
    · have d2 : decide ((k : Int) ≥ (np : Int)) = true := decide_eq_true (by omega)
      have d2c : np ≤ k := by omega
      have e : pageM ps k = ([], 6) := by unfold pageM; rw [if_neg (by omega)]
      rw [e]
      have HN := Lib.hid hnil
      clear h h1 h2 h5 h6 h7 hnil e hneg
      go_enter Try.func81, Try.ntmps81
      go_wp2_with (fail)
      go_ret2
      exact ⟨rfl, ⟨none, 0, 0, []⟩, rfl, rfl, HN.out⟩
end Go.Proofs.Ytofclanljhfkiaa
/- The reference's table: Sum, Get, Copy. -/
namespace Go.Proofs.Ytofclanljhfkiaa
open Go.RowKit Go.Proofs En Co
set_option linter.unusedVariables false
set_option linter.unusedSimpArgs false
set_option maxRecDepth 20000
attribute [local go_sem ↓] ld_point_eq ld_coin_eq ld_hash_eq st_point_eq st_coin_eq bd_point_eq bd_coin_eq eq_point_eq ne_point_eq al_coin_eq al_point_eq bs_coin_eq
attribute [local go_sem] ld_point_run ld_coin_run ld_hash_run st_point_run st_coin_run bd_point_zero bd_coin_zero bd_point_of bd_coin_of hash_at rowIs_34 rowIs_37 rowIs_both hasAt_both cellsAt_both eq_point_run ne_point_run guard_pt al_coin_run al_point_run al_coin_row al_point_row nil_bytes nil_coins bs_coin_run

theorem add_pos (x : Addr) (k : Nat) (h : k ≠ 0) : x.add k = ⟨x.block, x.off + k, none⟩ := by unfold Addr.add; rw [if_neg h]

set_option maxRecDepth 20000 in
set_option maxHeartbeats 1000000 in
theorem rsum_m {w : World} {base g : Nat} {Q : Option Addr} {ps : List (List Cn)} (h : RT w base g Q ps) (hb : ps.flatten.length ≤ 1000000) (hb2 : ps.length ≤ 1000000) :
    Calls Try.prog 83 #[ptr g] w fun e w' => e = .returned (.int .u64 (worthF ps.flatten)) ∧ Below w.heap.size w w' := by
  have AL := Lib.hid (rall_m h (Below.refl _ _) hb hb2)
  clear h
  go_enter Try.func83, Try.ntmps83
  go_wp2_with (fail)
  refine AL.out.mono ?_
  rintro e w1 ⟨x, rfl, hcs, hfp, hb1, _⟩
  have hxl := hfp.arg.len
  have hxc := hfp.arg.cap
  have hxm := hfp.arg.max
  have hfl : ps.flatten.length = x.n := by rw [← hcs, cns_length, hxl]
  have hxn : x.n ≤ 1000000 := by omega
  have Z := Lib.hid (And.intro hcs (And.intro hfp (And.intro hb1 hfl)))
  clear hcs hfp hb1 hfl
  go_wp2_with (fail)
  go_loopw [3, 5] (fun s i wr => ∃ j : Nat, j ≤ x.n ∧ i = .int .i64 j ∧ s = .int .u64 (worthF (ps.flatten.take j)) ∧ Below w1.heap.size w1 wr) (fun _ i _ => x.n - (intOf i).toNat)
  case atStart => exact ⟨0, by omega, rfl, by simp [worthF], Below.refl _ _⟩
  case round =>
    obtain ⟨j, hj, rfl, rfl, hbel⟩ := hrel
    by_cases hlt : j < x.n
    · obtain ⟨ad, m, hA, hm, hok, hbk, hc⟩ := (Z.out.2.1.arg.below hbel).at_ hlt
      have hv := hc 34 _ (cc_get hok.c.p).1
      rw [add_pos _ 34 (by decide)] at hv
      have d1 : decide ((j : Int) < (x.n : Int)) = true := decide_eq_true (by omega)
      have i1 : (0 : Int) ≤ (j : Int) := by omega
      have i2 : (j : Int) < (x.n : Int) := by omega
      have hfj : ps.flatten[j]? = some m.c := by rw [← Z.out.1]; unfold cns; rw [List.getElem?_map, hm]; rfl
      have hnx := worthF_next hfj
      have X := Lib.hid (And.intro hnx hbel)
      generalize worthF (ps.flatten.take j) = s at *
      clear hc hm hok hnx hbel hfj
      rw [hA]
      go_wp2_with (fail)
      go_roundw
      case rel => exact ⟨j + 1, by omega, by go_num, by rw [X.out.1], X.out.2⟩
      case measure => simp [intOf]; omega
    · obtain rfl : j = x.n := by omega
      have d1 : decide ((x.n : Int) < (x.n : Int)) = false := decide_eq_false (by omega)
      have e : ps.flatten.take x.n = ps.flatten := List.take_of_length_le (by rw [Z.out.2.2.2]; exact Nat.le_refl _)
      rw [e]
      have H3 := Lib.hid (bThen Z.out.2.2.1 hbel)
      clear hbel e
      go_wp2_with (fail)
      go_ret
      exact ⟨rfl, H3.out⟩

theorem find_at {p : Pt} : ∀ {l : List Cn} {j : Nat} {c : Cn}, (∀ i x, i < j → l[i]? = some x → x.p ≠ p) → l[j]? = some c → c.p = p → l.find? (fun c => decide (c.p = p)) = some c
  | [], j, c, _, h, _ => by simp at h
  | a :: r, 0, c, _, h, hc => by
    obtain rfl : a = c := by simpa using h
    rw [List.find?_cons]
    simp [hc]
  | a :: r, j + 1, c, hn, h, hc => by
    have h0 := hn 0 a (by omega) rfl
    rw [List.find?_cons]
    simp only [h0, decide_false]
    exact find_at (l := r) (j := j) (fun i x hi hx => hn (i + 1) x (by omega) (by simpa using hx)) (by simpa using h) hc

abbrev StPP (a1 : Addr) (p1 : Pt) (b : Nat) (p2 : Pt) (w' : World) : Prop := (ld_point (.pointer (some a1))).run Try.prog w' = .ok (.agg (pc p1).toArray) w' ∧ (hasAt w' b 0 34 ∧ cellsAt w' b 0 34 = (pc p2).toArray)

set_option maxRecDepth 20000 in
set_option maxHeartbeats 2000000 in
theorem rget0_m {w0 w : World} {base g : Nat} {Q : Option Addr} {ps : List (List Cn)} (h : RT w0 base g Q ps) (h0 : Below w0.heap.size w0 w) (hb : ps.flatten.length ≤ 1000000) (hb2 : ps.length ≤ 1000000) (p : Pt) (hp : p.ok) :
    Calls Try.prog 86 #[ptr g, .agg (pc p).toArray] w fun e w' => ∃ m : Cm, e = .returned (.tuple #[.agg (cc m).toArray, .int .i64 (getM ps p).2]) ∧ m.c = (getM ps p).1 ∧ m.ok w' ∧ FirmL w' base m ∧ Below w.heap.size w w' ∧ m.ok w0 ∧ FirmL w0 base m := by
  obtain ⟨f0, g0⟩ := two_box w (.cells (pc p).toArray 54) (.cells (cc zm).toArray 57)
  have b0 : Below w.heap.size w ((w.alloc (.cells (pc p).toArray 54)).alloc (.cells (cc zm).toArray 57)) := belA ((Below.refl _ _).alloc (Nat.le_refl _) _) _ (Nat.le_refl _)
  have AL := Lib.hid (rall_m h (bThen h0 b0) hb hb2)
  have H0 := Lib.hid h0
  have HT := Lib.hid (And.intro f0 (And.intro g0 b0))
  clear h h0 f0 g0 b0
  go_enter Try.func86, Try.ntmps86
  go_wp2_with (fail)
  refine AL.out.mono ?_
  rintro e w1 ⟨x, rfl, hcs, hfp, hb1, _, _, _, hlk⟩
  have f1 := kept HT.out.1 hb1
  have g1 := kept HT.out.2.1 hb1
  have bl1 := bThen HT.out.2.2 hb1
  have hxl := hfp.arg.len
  have hxc := hfp.arg.cap
  have hxm := hfp.arg.max
  have hfl : ps.flatten.length = x.n := by rw [← hcs, cns_length, hxl]
  have hxn : x.n ≤ 1000000 := by omega
  have Z := Lib.hid (And.intro hcs (And.intro hfp (And.intro bl1 (And.intro hfl (And.intro f1 g1)))))
  have HLK := Lib.hid hlk
  have hokz := cc_ok (m := zm) zeroPt_ok
  have hokz2 : okAgg (cc ⟨zeroCn, none, 0⟩).toArray 37 := hokz
  clear hcs hfp hb1 hfl f1 g1 bl1 hlk
  go_wp2_with (fail)
  go_loopw [7] (fun i wr => ∃ j : Nat, j ≤ x.n ∧ i = .int .i64 j ∧ (∀ i c, i < j → ps.flatten[i]? = some c → c.p ≠ p) ∧ Below w1.heap.size w1 wr) (fun i _ => x.n - (intOf i).toNat)
  case atStart => exact ⟨0, by omega, rfl, fun i c hi => by omega, Below.refl _ _⟩
  case round =>
    obtain ⟨j, hj, rfl, hno, hbel⟩ := hrel
    have fr := kept Z.out.2.2.2.2.1 hbel
    have gr := kept Z.out.2.2.2.2.2 hbel
    have blr := bThen Z.out.2.2.1 hbel
    by_cases hlt : j < x.n
    · obtain ⟨ad, m, hA, hm, hok, hbk, hc⟩ := (Z.out.2.1.arg.below hbel).at_ hlt
      have d1 : decide ((j : Int) < (x.n : Int)) = true := decide_eq_true (by omega)
      have i1 : (0 : Int) ≤ (j : Int) := by omega
      have i2 : (j : Int) < (x.n : Int) := by omega
      have hfj : ps.flatten[j]? = some m.c := by rw [← Z.out.1]; unfold cns; rw [List.getElem?_map, hm]; rfl
      have hS0 : StPP (ad.add (j * 37)) m.c.p w.heap.size p wr.drew := ⟨ld_point_at wr.drew _ m hok.c.p hc, row_has (w := wr.drew) hp fr⟩
      have hld := ld_coin_at wr.drew _ m hok.c.p hc
      have oP : okPts (pc m.c.p).toArray (pc p).toArray := ⟨m.c.p, p, hok.c.p, hp, rfl, rfl⟩
      obtain ⟨r, hr⟩ : ∃ r, decide (m.c.p = p) = r := ⟨_, rfl⟩
      have eP : eqB (pc m.c.p).toArray (pc p).toArray = r := by rw [eqB_pc hok.c.p hp]; exact hr
      have hr2 : rowIs wr.drew (w.heap.size + 1) 37 := rowIs_of gr (by simpa using cc_length (m := zm) zeroPt_ok)
      have hokm := cc_ok hok.c.p
      have X := Lib.hid (And.intro hno (And.intro hfj (And.intro hr (And.intro hok (And.intro blr (And.intro hbel (HLK.out m (List.mem_of_getElem? hm))))))))
      clear hno hfj hr hok blr hbel hm hc fr gr
      rw [hA]
      cases r with
      | true =>
        go_wp2_with (fail)
        go_region_held3 (fun w' => StPP (ad.add (j * 37)) m.c.p w.heap.size p w') (exact hS0) (fail)
        rename_i hHeldX
        clear hHeldX hS0
        go_wp2_with (fail)
        refine bodyPost_ret (res_cell2 Try.results86 rfl (rd_coin_set hr2 hokm.1)) rfl ?_
        have hg : getM ps p = (m.c, 0) := by
          unfold getM
          rw [show findF ps p = some m.c from find_at X.out.1 X.out.2.1 (of_decide_eq_true X.out.2.2.1)]
        rw [hg]
        have b2 : Below w.heap.size w (wr.drew.setRow (w.heap.size + 1) (cc m).toArray) := belSetRow (X.out.2.2.2.2.1.drew) (by omega) _
        exact ⟨m, rfl, rfl, (X.out.2.2.2.2.2.2.1.below H0.out).below b2, (X.out.2.2.2.2.2.2.2.below H0.out).below b2, b2, X.out.2.2.2.2.2.2.1, X.out.2.2.2.2.2.2.2⟩
      | false =>
        go_wp2_with (fail)
        go_region_held3 (fun w' => StPP (ad.add (j * 37)) m.c.p w.heap.size p w') (exact hS0) (fail)
        rename_i hHeldX
        clear hHeldX hS0
        go_wp2_with (fail)
        go_roundw
        case rel =>
          refine ⟨j + 1, by omega, by go_num, fun i c hi hc => ?_, X.out.2.2.2.2.2.1.drew⟩
          rcases Nat.lt_or_ge i j with h1 | h1
          · exact X.out.1 i c h1 hc
          · obtain rfl : i = j := by omega
            obtain rfl := Option.some.inj (hc.symm.trans X.out.2.1)
            exact of_decide_eq_false X.out.2.2.1
        case measure => simp [intOf]; omega
    · obtain rfl : j = x.n := by omega
      have d1 : decide ((x.n : Int) < (x.n : Int)) = false := decide_eq_false (by omega)
      have hr2 : rowIs wr (w.heap.size + 1) 37 := rowIs_of gr (by simpa using cc_length (m := zm) zeroPt_ok)
      have hg : getM ps p = (zeroCn, 6) := by
        unfold getM
        rw [show findF ps p = none from findF_none fun c hc => by
          obtain ⟨i, hi, e⟩ := List.getElem_of_mem hc
          exact hno i c (by rw [← Z.out.2.2.2.1]; exact hi) (by rw [List.getElem?_eq_getElem hi, e])]
      have B := Lib.hid (And.intro blr hg)
      clear hno blr hbel fr gr hg
      go_wp2_with (fail)
      refine bodyPost_ret (res_cell2 Try.results86 rfl (rd_coin_set hr2 hokz.1)) rfl ?_
      rw [B.out.2]
      exact ⟨⟨zeroCn, none, 0⟩, rfl, rfl, ⟨zeroCn_ok, RdN.nil _ _ _, IsB.nil, Nat.le_refl _, Nat.zero_le _, Nat.zero_le _⟩, fun h0 => absurd (show 0 < 0 from h0) (by omega), belSetRow B.out.1 (by omega) _, ⟨zeroCn_ok, RdN.nil _ _ _, IsB.nil, Nat.le_refl _, Nat.zero_le _, Nat.zero_le _⟩, fun h0 => absurd (show 0 < 0 from h0) (by omega)⟩
theorem rget_m {w : World} {base g : Nat} {Q : Option Addr} {ps : List (List Cn)} (h : RT w base g Q ps) (hb : ps.flatten.length ≤ 1000000) (hb2 : ps.length ≤ 1000000) (p : Pt) (hp : p.ok) :
    Calls Try.prog 86 #[ptr g, .agg (pc p).toArray] w fun e w' => ∃ m : Cm, e = .returned (.tuple #[.agg (cc m).toArray, .int .i64 (getM ps p).2]) ∧ m.c = (getM ps p).1 ∧ m.ok w' ∧ FirmL w' base m ∧ Below w.heap.size w w' ∧ m.ok w ∧ FirmL w base m := rget0_m h (Below.refl _ _) hb hb2 p hp
end Go.Proofs.Ytofclanljhfkiaa
/- The reference's table: Copy, Bytes. -/
namespace Go.Proofs.Ytofclanljhfkiaa
open Go.RowKit Go.Proofs En Co
set_option linter.unusedVariables false
set_option linter.unusedSimpArgs false
set_option maxRecDepth 20000
attribute [local go_sem ↓] ld_point_eq ld_coin_eq ld_hash_eq st_point_eq st_coin_eq bd_point_eq bd_coin_eq eq_point_eq ne_point_eq al_coin_eq al_point_eq bs_coin_eq
attribute [local go_sem] ld_point_run ld_coin_run ld_hash_run st_point_run st_coin_run bd_point_zero bd_coin_zero bd_point_of bd_coin_of hash_at rowIs_34 rowIs_37 rowIs_both hasAt_both cellsAt_both eq_point_run ne_point_run guard_pt al_coin_run al_point_run al_coin_row al_point_row nil_bytes nil_coins bs_coin_run

theorem pages_one (gs : List Pg) : ∀ u ∈ gs.map Pg.cell, u.oneCell' = true := by
  intro u hu
  obtain ⟨y, _, rfl⟩ := List.mem_map.1 hu
  rfl
/-- the reference's table behind a row of pages that it gets -/
theorem RT.set {w4 : World} {base g b2 np k : Nat} {A : Option Addr} {gs : List Pg} {xs : Array Value} (hlow : base ≤ g) (hg : w4.heap[g]? = some (.cells xs 124 (0, 0))) (hxs : xs.size = 1) (ho : Own w4 b2 22 1 (fun _ => True) A np k (gs.map Pg.cell)) (hb : base ≤ b2) (hf : ∀ x ∈ gs, FirmP w4 base x) :
    RT (w4.setCell ⟨g, 0, none⟩ (.slice A np k)) base g A (pgsOf gs) := by
  have hS : Soft w4 (w4.setCell ⟨g, 0, none⟩ (.slice A np k)) base g none := ⟨(Only.refl w4 g none).setCell (.inl rfl) _, hlow, fun k hk => (by cases hk), ⟨xs, _, hg, .inr rfl⟩, fun k hk => (by cases hk)⟩
  have ho2 := Own.setOther ho (p := ⟨g, 0, none⟩) (fun e => Own.ne_block ho hg (by decide) e) (.slice A np k)
  refine ⟨hlow, np, k, gs, ?_, ho2.rd, (Own.len_cap ho2).1, (Own.len_cap ho2).2, fun x hx => (hf x hx).soft hS, rfl, fun i hi => ?_⟩
  · rw [heap_setCell_same _ g 0 _ _ _ hg]
    match xs, hxs with
    | ⟨[x]⟩, _ => rfl
  · have h1 := Own.lt ho2 i hi
    refine ⟨Nat.le_trans hb h1.1, h1.2, ?_⟩
    rcases ho2.2 with ⟨rfl, _⟩ | ⟨k', cur, rfl, _, hh, _⟩
    · cases hi
    · have e : k' = i := by simpa [blk] using hi
      subst e
      exact ⟨cur, hh⟩

theorem rnew_any (w : World) : Calls Try.prog 44 #[] w fun e w' => e = .returned (ptr w.heap.size) ∧ w' = w.alloc (.cells #[.slice none 0 0] 124) := by
  go_enter Try.func44, Try.ntmps44
  go_wp2_with (fail)
  go_ret
  exact ⟨rfl, rfl⟩
abbrev Cell0 (g : Nat) (v : Value) (w' : World) : Prop := w'.cell? ⟨g, 0, none⟩ = some v ∧ w'.frozen? ⟨g, 0, none⟩ = false
theorem Cell0.of {g : Nat} {v : Value} {w' : World} (h : w'.heap[g]? = some (.cells #[v] 124 (0, 0))) : Cell0 g v w' := ⟨(row_cells h 0).1, (row_cells h 0).2⟩

set_option maxRecDepth 20000 in
set_option maxHeartbeats 1000000 in
theorem rcopy_m {w : World} {base g : Nat} {Q : Option Addr} {ps : List (List Cn)} (h : RT w base g Q ps) (hb2 : ps.length ≤ 1000000) :
    Calls Try.prog 45 #[ptr g] w fun e w' => ∃ g' Q', e = .returned (ptr g') ∧ RT w' base g' Q' ps ∧ Below w.heap.size w w' ∧ w.heap.size ≤ g' ∧ ∀ k, blk Q' = some k → w.heap.size ≤ k := by
  have hlow := h.low
  obtain ⟨np, cp, gs, h1, h2, h3, h4, h5, h6, h7⟩ := h.ex
  have hgl := (Array.getElem?_eq_some_iff.1 h1).1
  have hnp : gs.length = np := by have := h2.1; rw [List.length_map] at this; omega
  have hnp2 : np ≤ 1000000 := by rw [← h6, pgsOf_length] at hb2; omega
  have NW := Lib.hid (rnew_any w)
  have HT := Lib.hid (And.intro h1 (And.intro h2 (And.intro h5 h6)))
  clear h h1 h2 h5 h6 h7
  go_enter Try.func45, Try.ntmps45
  go_wp2_with (fail)
  refine NW.out.mono ?_
  rintro e w1 ⟨rfl, hw1⟩
  have hb1 : Below w.heap.size w w1 := by rw [hw1]; exact (Below.refl _ _).alloc (Nat.le_refl _) _
  have r1 : w1.heap[w.heap.size]? = some (.cells #[.slice none 0 0] 124 (0, 0)) := by rw [hw1]; exact heap_alloc_new w _
  have k1 := kept HT.out.1 hb1
  have d1 : Cell0 g (.slice Q np cp) w1.drew := Cell0.of k1
  have d2 : Cell0 w.heap.size (.slice none 0 0) w1.drew := Cell0.of r1
  have hz1 : w.heap.size ≤ w1.drew.heap.size := hb1.size
  have Z := Lib.hid (And.intro hb1 r1)
  clear hw1 hb1 r1 k1
  go_wp2_with (fail)
  go_region_law (refine step_appP _ rfl (.tmp 9) (.tmp 13) rfl w.heap.size none 0 0 [] (by rfl) (Own.nil _ _ _ _ _) ⟨Q, np, cp, gs.map Pg.cell⟩ (by rfl) ⟨(HT.out.2.1.below Z.out.1).drew, pages_one gs⟩ (by show 0 + np ≤ _; omega) hz1 ?_; intro A4 k4 w4 ho4 hg4; have hL4 : Cell0 w.heap.size (.slice none 0 0) w4 := Cell0.of ((hg4.block _ (by have := (Array.getElem?_eq_some_iff.1 Z.out.2).1; exact this) (fun e => by cases e)).trans Z.out.2))
  all_goals (
    have b4 : Below w1.heap.size w1 w4 := ⟨hg4.os, hg4.tape, hg4.output, hg4.size, fun k hk => hg4.block k hk (fun e => by cases e)⟩
    have bl4 := bThen Z.out.1 b4
    have ho5 : Own w4 w.heap.size 22 1 (fun _ => True) A4 np k4 (gs.map Pg.cell) := by
      have h := ho4
      simp only [Nat.zero_add, List.nil_append] at h
      exact h
    have hRT := RT.set (base := base) (g := w.heap.size) (by omega) (kept Z.out.2 b4) rfl ho5 (show base ≤ w.heap.size by omega) (fun x hx => (HT.out.2.2.1 x hx).below bl4)
    rw [HT.out.2.2.2] at hRT
    have b5 := bl4.setCell (p := ⟨w.heap.size, 0, none⟩) (Nat.le_refl _) (.slice A4 np k4)
    have V := Lib.hid (And.intro hRT (And.intro b5 (fun k hk => (Own.lt ho5 k hk).1)))
    clear b4 bl4 ho5 hRT b5 ho4 hg4 hL4 d1 d2
    go_wp2_with (fail)
    go_ret
    exact ⟨w.heap.size, A4, rfl, by simpa using V.out.1, by simpa using V.out.2.1, Nat.le_refl _, V.out.2.2⟩)
end Go.Proofs.Ytofclanljhfkiaa
/- The reference's table: Bytes. -/
namespace Go.Proofs.Ytofclanljhfkiaa
open Go.RowKit Go.Proofs En Co
set_option linter.unusedVariables false
set_option linter.unusedSimpArgs false
set_option maxRecDepth 20000
attribute [local go_sem ↓] ld_point_eq ld_coin_eq ld_hash_eq st_point_eq st_coin_eq bd_point_eq bd_coin_eq eq_point_eq ne_point_eq al_coin_eq al_point_eq bs_coin_eq
attribute [local go_sem] ld_point_run ld_coin_run ld_hash_run st_point_run st_coin_run bd_point_zero bd_coin_zero bd_point_of bd_coin_of hash_at rowIs_34 rowIs_37 rowIs_both hasAt_both cellsAt_both eq_point_run ne_point_run guard_pt al_coin_run al_point_run al_coin_row al_point_row nil_bytes nil_coins bs_coin_run

theorem pagesF_len2 {T : List (List Cn)} (h : ∀ l ∈ T, ∀ c ∈ l, c.ok) : (T.flatMap pageF).length ≤ 9 * T.length + 200 * T.flatten.length := by
  induction T with
  | nil => simp
  | cons l r ih =>
    have h1 := coinsF_len (h l (List.mem_cons_self ..))
    have h2 := ih (fun x hx => h x (List.mem_cons_of_mem _ hx))
    have h3 := countF_len9 l.length
    rw [List.flatMap_cons, List.flatten_cons, List.length_append, List.length_append, List.length_cons]
    have h4 : (pageF l).length = (countF l.length).length + (coinsF l).length := by unfold pageF; rw [List.length_append]
    omega
theorem take_flat_le (ps : List (List Cn)) (j : Nat) : (ps.take j).flatten.length ≤ ps.flatten.length := by
  conv => rhs; rw [← List.take_append_drop j ps, List.flatten_append, List.length_append]
  exact Nat.le_add_right _ _

set_option maxRecDepth 20000 in
set_option maxHeartbeats 2000000 in
theorem rbytes_m {w : World} {base g : Nat} {Q : Option Addr} {ps : List (List Cn)} (h : RT w base g Q ps) (hb : ps.flatten.length ≤ 1000000) (hb2 : ps.length ≤ 1000000) :
    Calls Try.prog 84 #[ptr g] w fun e w' => ∃ A d, e = .returned (.slice A (tableF ps).length d) ∧ OwnB w' w.heap.size A (tableF ps).length d (tableF ps) ∧ Below w.heap.size w w' := by
  obtain ⟨np, cp, gs, h1, h2, h3, h4, h5, h6, h7⟩ := h.ex
  have c1 : w.cell? ⟨g, 0, none⟩ = some (.slice Q np cp) := (row_cells h1 0).1
  have hnp : gs.length = np := by have := h2.1; rw [List.length_map] at this; omega
  have hpl : ps.length = np := by rw [← h6, pgsOf_length, hnp]
  have hnp2 : np ≤ 1000000 := by omega
  have hat : ∀ {j : Nat} {x : Pg}, gs[j]? = some x → ps[j]? = some (cns x.hs) := fun {j x} hx => by rw [← h6]; unfold pgsOf; rw [List.getElem?_map, hx]; rfl
  have hcok : ∀ l ∈ ps, ∀ c ∈ l, c.ok := by
    intro l hl c hc
    rw [← h6] at hl
    obtain ⟨y, hy, rfl⟩ := List.mem_map.1 hl
    obtain ⟨m, hm, rfl⟩ := List.mem_map.1 hc
    exact ((h5 y hy).arg.ok m hm).c
  have hsz : ∀ j, ((ps.take j).flatMap pageF).length ≤ 209000000 := fun j => by
    have h1 := pagesF_len2 (T := ps.take j) fun l hl => hcok l (List.mem_of_mem_take hl)
    have h2 := take_flat_le ps j
    have h3 : (ps.take j).length ≤ 1000000 := by rw [List.length_take]; omega
    omega
  have wnp : IntKind.u64.wrap (np : Int) = np := wrap_u64 (by omega)
  obtain ⟨c0, hc0⟩ : ∃ c0, countF np = c0 := ⟨_, rfl⟩
  have c09 := countF_len9 np
  rw [hc0] at c09
  have HT := Lib.hid (And.intro h2 (And.intro h5 (And.intro hpl (And.intro hc0 (And.intro @hat (And.intro hsz hnp))))))
  clear h h1 h2 h5 h6 h7 hc0 hat hcok hsz hpl hnp
  go_enter Try.func84, Try.ntmps84
  go_wp2_with (fail)
  refine (count_isr w (by omega) HT.out.2.2.2.1).mono ?_
  rintro e w1 ⟨A1, k1, rfl, ho1, hb1⟩
  go_wp2_with (fail)
  go_loopw [3, 4] (fun v i wr => ∃ j : Nat, j ≤ np ∧ i = .int .i64 j ∧ (∃ A k q out, v = .slice A q k ∧ out = c0 ++ (ps.take j).flatMap pageF ∧ OwnB wr w.heap.size A q k out) ∧ Below w.heap.size w wr) (fun _ i _ => np - (intOf i).toNat)
  case atStart => exact ⟨0, by omega, rfl, ⟨A1, k1, _, c0, rfl, by simp, ho1⟩, hb1⟩
  case round =>
    clear ho1 hb1
    obtain ⟨j, hj, rfl, ⟨A, k, q, out, rfl, hout, ho⟩, hbel⟩ := hrel
    have cr := cell_keep c1 hbel
    have hq : q ≤ 209000009 := by
      have h2 := HT.out.2.2.2.2.2.1 j
      have h3 := ho.len
      rw [hout, List.length_append] at h3
      omega
    by_cases hlt : j < np
    · obtain ⟨ad, x, rfl, hx, hbk, hc⟩ := rd_page HT.out.1 hlt
      have hcw := cell_keep hc hbel
      have hxp := (HT.out.2.1 x (List.mem_of_getElem? hx)).below hbel
      have hxl := hxp.arg.len
      have hpx := HT.out.2.2.2.2.1 hx
      have hxn : x.n ≤ 1000000 := by
        have h1 : (cns x.hs).length ≤ ps.flatten.length := by
          have h2 : (ps.take (j + 1)).flatten.length = (ps.take j).flatten.length + (cns x.hs).length := by rw [take_next hpx, List.flatten_append, List.length_append]; simp
          have h3 := take_flat_le ps (j + 1)
          omega
        rw [cns_length, hxl] at h1
        omega
      have hxcap := hxp.arg.cap
      have hxmax := hxp.arg.max
      have d1 : decide ((j : Int) < (np : Int)) = true := decide_eq_true (by omega)
      have i1 : (0 : Int) ≤ (j : Int) := by omega
      have i2 : (j : Int) < (np : Int) := by omega
      have wxn : IntKind.u64.wrap (x.n : Int) = x.n := wrap_u64 (by omega)
      obtain ⟨cx, hcx⟩ : ∃ cx, countF x.n = cx := ⟨_, rfl⟩
      have cx9 := countF_len9 x.n
      rw [hcx] at cx9
      have hz := hbel.size
      have X := Lib.hid (And.intro hpx (And.intro (HT.out.2.1 x (List.mem_of_getElem? hx)) (And.intro hcx (And.intro hout (And.intro hbel (And.intro ho (And.intro hxl hc)))))))
      have HXL := Lib.hid hxl
      clear hx hxp hpx hcx hout hbel ho hxl hc
      go_wp2_with (fail)
      refine (count_isr wr (by omega) X.out.2.2.1).mono ?_
      rintro e w2 ⟨A2, k2, rfl, ho2, hb2⟩
      have hbel2 := bThen X.out.2.2.2.2.1 hb2
      have hz2 := hbel2.size
      go_wp2_with (at_builtin; refine Stop.mk ?_)
      refine Stop.out ?_
      refine wpList_appN _ rfl (.tmp 24) (.tmp 34) _ rfl w.heap.size 5 .u8 1 Try.underlying40 inf_b A q k out rfl (OwnN.below X.out.2.2.2.2.2.1 hb2) A2 cx.length k2 cx rfl (OwnN.rd ho2) (by unfold maxLen; omega) (by omega) hz2 ?_
      intro A3 k3 w3 ho3 hg3 _
      have hb3 : Below w.heap.size w w3 := hbel2.grown hg3 hz2 (fun y hy => (OwnN.lt (OwnN.below X.out.2.2.2.2.2.1 hb2) y hy).1)
      have Y := Lib.hid (And.intro ho3 hb3)
      clear ho2 hb2 hbel2 hz2 ho3 hg3 hb3
      go_wp2_with (fail)
      go_loopw [3, 5] (fun v i wr => ∃ t : Nat, t ≤ x.n ∧ i = .int .i64 t ∧ (∃ A k r o2, v = .slice A r k ∧ o2 = out ++ cx ++ coinsF ((cns x.hs).take t) ∧ OwnB wr w.heap.size A r k o2) ∧ Below w.heap.size w wr) (fun _ i _ => x.n - (intOf i).toNat)
      case atStart => exact ⟨0, by omega, rfl, ⟨A3, k3, _, _, rfl, by simp [coinsF], Y.out.1⟩, Y.out.2⟩
      case round =>
        obtain ⟨t, ht, rfl, ⟨A4, k4, r, o2, rfl, ho2e, ho4⟩, hb4⟩ := hrel
        have c1r := cell_keep c1 hb4
        have hcr := cell_keep X.out.2.2.2.2.2.2.2 hb4
        have hr : r ≤ 209000009 + 9 + 200 * 1000000 := by
          have h3 := ho4.len
          have h4 := (Own.len_cap X.out.2.2.2.2.2.1).1
          have h5 := X.out.2.2.2.2.2.1.len
          have h6 : (coinsF ((cns x.hs).take t)).length ≤ 200 * ((cns x.hs).take t).length := coinsF_len fun c hc => by
            obtain ⟨m, hm, rfl⟩ := List.mem_map.1 (List.mem_of_mem_take hc)
            exact (X.out.2.1.arg.ok m hm).c
          have h7 : ((cns x.hs).take t).length ≤ t := List.length_take_le _ _
          rw [ho2e, List.length_append, List.length_append] at h3
          omega
        by_cases htl : t < x.n
        · obtain ⟨a3, m, hA3, hm, hok, hbk2, hc2⟩ := (X.out.2.1.arg.below hb4).at_ htl
          rw [hA3] at hcr
          have d2 : decide ((t : Int) < (x.n : Int)) = true := decide_eq_true (by omega)
          have j1 : (0 : Int) ≤ (t : Int) := by omega
          have j2 : (t : Int) < (x.n : Int) := by omega
          have hld := ld_coin_at wr (a3.add (t * 37)) m hok.c.p hc2
          have hzr := hb4.size
          have hokm := cc_ok hok.c.p
          obtain ⟨pb, pq, hpb⟩ : ∃ pb pq, putCF m.c = (pb, pq) := ⟨_, _, rfl⟩
          have hpl := putCF_len hok.c.p hpb
          have hcn : coinsF ((cns x.hs).take (t + 1)) = coinsF ((cns x.hs).take t) ++ pb := by
            have e : (cns x.hs)[t]? = some m.c := by unfold cns; rw [List.getElem?_map, hm]; rfl
            rw [coinsF_next e, hpb]
          have V := Lib.hid (And.intro hok (And.intro hpb (And.intro hcn (And.intro ho2e (And.intro ho4 hb4)))))
          clear hc2 hm hok hpb hcn ho2e ho4 hb4 hA3
          go_wp2_with (fail)
          refine (rput06_is V.out.1 V.out.2.1).mono ?_
          rintro e w5 ⟨A5, k5, rfl, ho5, hb5⟩
          have hbel5 := bThen V.out.2.2.2.2.2 hb5
          have hz5 := hbel5.size
          have o5 := OwnN.below V.out.2.2.2.2.1 hb5
          go_wp2_with (at_builtin; refine Stop.mk ?_)
          refine Stop.out ?_
          refine wpList_appN _ rfl (.tmp 62) (.tmp 63) _ rfl w.heap.size 5 .u8 1 Try.underlying40 inf_b A4 r k4 o2 rfl o5 A5 pb.length k5 pb rfl (OwnN.rd ho5) (by unfold maxLen; omega) (by omega) hz5 ?_
          intro A6 k6 w6 ho6 hg6 _
          have hb6 : Below w.heap.size w w6 := hbel5.grown hg6 hz5 (fun y hy => (OwnN.lt o5 y hy).1)
          have W := Lib.hid (And.intro ho6 hb6)
          clear ho6 hb6 hg6 o5 hbel5 hb5 ho5 hz5 hld hokm
          go_wp2_with (fail)
          go_roundw
          case rel => exact ⟨t + 1, by omega, by go_num, ⟨A6, k6, _, _, rfl, by rw [V.out.2.2.1, V.out.2.2.2.1, List.append_assoc (out ++ cx)], W.out.1⟩, W.out.2⟩
          case measure => simp [intOf]; omega
        · obtain rfl : t = x.n := by omega
          have d2 : decide ((x.n : Int) < (x.n : Int)) = false := decide_eq_false (by omega)
          have e : (cns x.hs).take x.n = cns x.hs := List.take_of_length_le (by rw [cns_length, HXL.out]; exact Nat.le_refl _)
          rw [e] at ho2e
          have V := Lib.hid (And.intro ho2e (And.intro ho4 hb4))
          clear ho2e ho4 hb4 e
          go_wp2_with (fail)
          go_roundw
          case rel =>
            refine ⟨j + 1, by omega, by go_num, ⟨A4, k4, r, o2, rfl, ?_, V.out.2.1⟩, V.out.2.2⟩
            rw [V.out.1, X.out.2.2.2.1, pagesF_next X.out.1, ← List.append_assoc]
            unfold pageF
            rw [show (cns x.hs).length = x.n from by rw [cns_length, HXL.out], X.out.2.2.1]
            simp only [List.append_assoc]
          case measure => simp [intOf]; omega
    · obtain rfl : np = j := by omega
      have d1 : decide ((np : Int) < (np : Int)) = false := decide_eq_false (by omega)
      have e : ps.take np = ps := List.take_of_length_le (by rw [HT.out.2.2.1]; exact Nat.le_refl _)
      rw [e] at hout
      have hf : out = tableF ps := by rw [hout]; unfold tableF; rw [HT.out.2.2.1, HT.out.2.2.2.1]
      have hlo := ho.len
      have V := Lib.hid (And.intro hf (And.intro ho (And.intro hbel hlo)))
      clear hout e hf ho hbel hlo
      go_wp2_with (fail)
      go_ret
      rw [← V.out.1, V.out.2.2.2]
      exact ⟨A, k, rfl, V.out.2.1, V.out.2.2.1⟩
end Go.Proofs.Ytofclanljhfkiaa
