/- Joined texts: TabK, TabL, TabN, TabO. -/
import Derived.Test.YtofclanljhfkiaaM11
/- Where a point is found in a table. -/
namespace Go.Proofs.Ytofclanljhfkiaa
open Go.RowKit Go.Proofs En Co
set_option linter.unusedVariables false
set_option linter.unusedSimpArgs false
set_option maxRecDepth 20000
attribute [local go_sem ↓] ld_point_eq ld_coin_eq ld_hash_eq st_point_eq st_coin_eq bd_point_eq bd_coin_eq eq_point_eq ne_point_eq al_coin_eq al_point_eq
attribute [local go_sem] ld_point_run ld_coin_run ld_hash_run st_point_run st_coin_run bd_point_zero bd_coin_zero bd_point_of bd_coin_of hash_at rowIs_34 rowIs_37 rowIs_both hasAt_both cellsAt_both eq_point_run ne_point_run guard_pt al_coin_run al_point_run al_coin_row al_point_row nil_bytes nil_coins

/-- the page for a point, where it stands there, and whether it does -/
def Found (gs : List Pg) (p : Pt) (pg at_ : Nat) (is : Bool) : Prop :=
  (gs = [] ∧ pg = 0 ∧ at_ = 0 ∧ is = false) ∨
  ∃ x, gs[pg]? = some x ∧ Stands x.pts p at_ ∧ is = decide (x.pts[at_]? = some p) ∧ (∀ (j : Nat) (y : Pg), j < pg → gs[j]? = some y → lessF y.key p = true) ∧ (∀ (j : Nat) (y : Pg), pg < j → gs[j]? = some y → lessF p y.key = true) ∧ (0 < pg → lessF x.key p = true ∨ x.key = p)

abbrev StK (w : World) (p : Pt) (g : Nat) (v : Value) (a : Addr) (u : Value) (w' : World) : Prop := StB w p w' ∧ w'.cell? ⟨g, 1, none⟩ = some v ∧ w'.cell? a = some u
theorem cell_keep {w w' : World} {a : Addr} {v : Value} (h : w.cell? a = some v) (hb : Below w.heap.size w w') : w'.cell? a = some v :=
  (World.cell?_of_block (hb.block _ (World.block_lt_of_cell? _ _ h))).trans h

set_option maxRecDepth 20000 in
set_option maxHeartbeats 2000000 in
theorem find_any {w : World} {base g : Nat} {P : Option Addr} {np cp : Nat} {gs : List Pg} (h : Tab w base g P np cp gs) (p : Pt) (hp : p.ok) :
    Calls Try.prog 69 #[.pointer (some ⟨g, 0, none⟩), .agg (pc p).toArray] w fun e w' =>
      ∃ (pg at_ : Nat) (is : Bool), e = .returned (.tuple #[.int .i64 pg, .int .i64 at_, .bool is]) ∧ Found gs p pg at_ is ∧ Below w.heap.size w w' := by
  have hl := h.len
  have hnp := h.np_le
  have hcap := (Own.len_cap h.pages).1
  have hmax := (Own.len_cap h.pages).2
  have b0 : Below w.heap.size w (w.alloc (.cells (pc p).toArray 54)) := (Below.refl _ _).alloc (Nat.le_refl _) _
  have hS0 : StB w p (w.alloc (.cells (pc p).toArray 54)) := StB.of hp b0 (heap_alloc_new w _)
  have hpc : w.cell? ⟨g, 1, none⟩ = some (.slice P np cp) := (row_cells h.row 1).1
  have hS1 : StG w p ⟨g, 1, none⟩ (.slice P np cp) (w.alloc (.cells (pc p).toArray 54)).drew := ⟨hS0.drew hp, cell_keep hpc b0.drew⟩
  have hpos : ∀ x ∈ gs, 0 < x.hs.length := fun x hx => by rw [(h.own x hx).1.len]; exact (h.own x hx).2.1
  have HT := Lib.hid (And.intro h (And.intro h.arg (And.intro (h.up.keys hpos) hpos)))
  clear h hS0 hpos b0
  go_enter Try.func69, Try.ntmps69
  go_wp2_with (fail)
  go_region_held3 (fun w' => StG w p ⟨g, 1, none⟩ (.slice P np cp) w') (first | exact hS2 | exact hS1)
    (first | (go_at_call 103; (with_reducible refine (searchP_any P np cp gs p _ (HT.out.2.1.below hS1.1.1) hp (by omega) HT.out.2.2.1.up).mono ?_); rintro e w2 ⟨i, rfl, hi, hb2⟩; (generalize hqq : decide ((gs.map Pg.key)[i]? = some p) = qb); have hS2 : StG w p ⟨g, 1, none⟩ (.slice P np cp) w2 := ⟨hS1.1.below hp hb2, cell_keep hS1.2 hb2⟩))
  rename_i hHeldX
  clear hHeldX hb2 hS1
  have hi1 : i ≤ np := by have := hi.1; rw [List.length_map, hl] at this; exact this
  have KK := Lib.hid HT.out.2.2.1.up
  have IH := Lib.hid hi
  clear hi
  by_cases hq : (gs.map Pg.key)[i]? = some p
  · have d1 : decide ((gs.map Pg.key)[i]? = some p) = true := decide_eq_true hq
    have hlt : i < np := by have := (List.getElem?_eq_some_iff.1 hq).1; rw [List.length_map, hl] at this; exact this
    have QH := Lib.hid hq
    clear hq
    rw [d1] at hqq
    subst hqq
    clear d1
    have HB0 : (∀ (j : Nat) (y : Pg), j < i → gs[j]? = some y → lessF y.key p = true) ∧ (∀ (j : Nat) (y : Pg), i < j → gs[j]? = some y → lessF p y.key = true) := ⟨fun j y hj hy => IH.out.2.1 j _ (by omega) (by rw [List.getElem?_map, hy]; rfl), fun j y hj hy => KK.out i j p y.key hj QH.out (by rw [List.getElem?_map, hy]; rfl)⟩
    have HB := Lib.hid HB0
    clear HB0
    obtain ⟨ad, x, rfl, hx, hxo, hbk, hc⟩ := (HT.out.2.1.below hS2.1.1).at_ (show i < np by omega)
    obtain ⟨hxa, hx0, hxn⟩ := hxo
    have i1 : (0 : Int) ≤ ((i : Nat) : Int) := by omega
    have i2 : ((i : Nat) : Int) < (np : Int) := by omega
    have dd : decide (((i : Nat) : Int) < (np : Int)) = true := decide_eq_true i2
    have hS3 : StK w p g (.slice (some ad) np cp) ((ad.add i)) (.slice x.A x.n x.c) w2.drew := ⟨hS2.1.drew hp, hS2.2, hc⟩
    have hcell1 := hS2.2
    have HK0 : 0 < i → lessF x.key p = true ∨ x.key = p := fun _ => .inr (by have h9 := QH.out; rw [List.getElem?_map, hx] at h9; exact Option.some.inj h9)
    have HK := Lib.hid HK0
    clear HK0
    have X := Lib.hid (And.intro hx (And.intro hxa (show Up ((cns x.hs).map Cn.p) from (HT.out.1.up.page (List.mem_of_getElem? hx)).up)))
    clear hx hxa hc hx0
    go_wp2_with (fail)
    go_region_held3 (fun w' => StK w p g (.slice (some ad) np cp) ((ad.add i)) (.slice x.A x.n x.c) w') (first | exact hS4 | exact hS3)
      (first | (go_at_call 106; (with_reducible refine (searchC_any x.A x.n x.c x.hs p _ (X.out.2.1.below (Below.refl _ _).drew) hp (by omega) X.out.2.2).mono ?_); rintro e w4 ⟨j, rfl, hj, hb4⟩; (generalize hqc : decide (((cns x.hs).map Cn.p)[j]? = some p) = qc); have hS4 : StK w p g (.slice (some ad) np cp) ((ad.add i)) (.slice x.A x.n x.c) w4 := ⟨hS3.1.below hp hb4, cell_keep hS3.2.1 hb4, cell_keep hS3.2.2 hb4⟩))
    rename_i hHeldX
    clear hHeldX hb4 hS3
    have Z := Lib.hid (And.intro hS4.1.1 (And.intro hj hqc))
    clear hS4 hj hS2 hqc
    go_wp2_with (fail)
    go_ret3
    exact ⟨i, j, qc, rfl, .inr ⟨x, X.out.1, Z.out.2.1, Z.out.2.2.symm, HB.out.1, HB.out.2, HK.out⟩, Z.out.1⟩
  · have d1 : decide ((gs.map Pg.key)[i]? = some p) = false := decide_eq_false hq
    have AF : ∀ (j : Nat) (y : Pg), i ≤ j → gs[j]? = some y → lessF p y.key = true := by
      intro j y hj hy
      have hk : (gs.map Pg.key)[j]? = some y.key := by rw [List.getElem?_map, hy]; rfl
      have hyk : y.key.ok := by
        obtain ⟨m, _, hm2, hm3⟩ := (HT.out.2.1.ok y (List.mem_of_getElem? hy)).first
        rw [hm2]; exact hm3
      have h1 := IH.out.2.2 j _ hj hk
      have hne : y.key ≠ p := by
        intro he
        rcases Nat.eq_or_lt_of_le hj with e | e
        · subst e; exact hq (by rw [hk, he])
        · have hil : i < (gs.map Pg.key).length := by have := (List.getElem?_eq_some_iff.1 hk).1; omega
          have h2 := KK.out i j _ y.key e (List.getElem?_eq_getElem hil) hk
          have h3 := IH.out.2.2 i _ (Nat.le_refl _) (List.getElem?_eq_getElem hil)
          rw [he] at h2
          rw [h2] at h3
          cases h3
      have h4 := lessF_total hyk hp hne
      rw [h1] at h4
      cases h5 : lessF p y.key with
      | true => rfl
      | false => rw [h5] at h4; cases h4
    have AH := Lib.hid AF
    clear hq AF
    rw [d1] at hqq
    subst hqq
    clear d1
    cases i with
    | zero =>
      rcases Nat.eq_zero_or_pos np with h0 | h0
      · subst h0
        have hgs : gs = [] := List.eq_nil_of_length_eq_zero hl
        have hcell1 := hS2.2
        have Z := Lib.hid (And.intro hS2.1.1 hgs)
        clear hS2 hgs
        go_wp2_with (fail)
        go_ret3
        exact ⟨0, 0, false, rfl, .inl ⟨Z.out.2, rfl, rfl, rfl⟩, Z.out.1⟩
      · have AH2 := AH
        have HB0 : (∀ (j : Nat) (y : Pg), j < 0 → gs[j]? = some y → lessF y.key p = true) ∧ (∀ (j : Nat) (y : Pg), 0 < j → gs[j]? = some y → lessF p y.key = true) := ⟨fun j y hj hy => by omega, fun j y hj hy => AH.out j y (by omega) hy⟩
        have HB := Lib.hid HB0
        clear HB0
        obtain ⟨ad, x, rfl, hx, hxo, hbk, hc⟩ := (HT.out.2.1.below hS2.1.1).at_ (show 0 < np by omega)
        have e0 : ad.add 0 = ad := by unfold Addr.add; simp
        rw [e0] at hc
        obtain ⟨hxa, hx0, hxn⟩ := hxo
        have i1 : (0 : Int) ≤ ((0 : Nat) : Int) := by omega
        have i2 : ((0 : Nat) : Int) < (np : Int) := by omega
        have dd : decide (((0 : Nat) : Int) < (np : Int)) = true := decide_eq_true i2
        have hS3 : StK w p g (.slice (some ad) np cp) (ad) (.slice x.A x.n x.c) w2.drew := ⟨hS2.1.drew hp, hS2.2, hc⟩
        have hcell1 := hS2.2
        have HK0 : 0 < 0 → lessF x.key p = true ∨ x.key = p := fun h => absurd h (by omega)
        have HK := Lib.hid HK0
        clear HK0
        have X := Lib.hid (And.intro hx (And.intro hxa (show Up ((cns x.hs).map Cn.p) from (HT.out.1.up.page (List.mem_of_getElem? hx)).up)))
        clear hx hxa hc hx0
        go_wp2_with (fail)
        go_region_held3 (fun w' => StK w p g (.slice (some ad) np cp) (ad) (.slice x.A x.n x.c) w') (first | exact hS4 | exact hS3)
          (first | (go_at_call 106; (with_reducible refine (searchC_any x.A x.n x.c x.hs p _ (X.out.2.1.below (Below.refl _ _).drew) hp (by omega) X.out.2.2).mono ?_); rintro e w4 ⟨j, rfl, hj, hb4⟩; (generalize hqc : decide (((cns x.hs).map Cn.p)[j]? = some p) = qc); have hS4 : StK w p g (.slice (some ad) np cp) (ad) (.slice x.A x.n x.c) w4 := ⟨hS3.1.below hp hb4, cell_keep hS3.2.1 hb4, cell_keep hS3.2.2 hb4⟩))
        rename_i hHeldX
        clear hHeldX hb4 hS3
        have Z := Lib.hid (And.intro hS4.1.1 (And.intro hj hqc))
        clear hS4 hj hS2 hqc
        go_wp2_with (fail)
        go_ret3
        exact ⟨0, j, qc, rfl, .inr ⟨x, X.out.1, Z.out.2.1, Z.out.2.2.symm, HB.out.1, HB.out.2, HK.out⟩, Z.out.1⟩
    | succ k =>
      have wk : IntKind.i64.wrap (((k + 1 : Nat) : Int) - 1) = (k : Int) := by rw [wrap_i64s (by omega)]; omega
      have wk2 : IntKind.i64.wrap ((k : Int) + 1 - 1) = (k : Int) := by rw [wrap_i64s (by omega)]; omega
      have mk : max (k : Int) 0 = (k : Int) := by omega
      have HB0 : (∀ (j : Nat) (y : Pg), j < k → gs[j]? = some y → lessF y.key p = true) ∧ (∀ (j : Nat) (y : Pg), k < j → gs[j]? = some y → lessF p y.key = true) := ⟨fun j y hj hy => IH.out.2.1 j _ (by omega) (by rw [List.getElem?_map, hy]; rfl), fun j y hj hy => AH.out j y (by omega) hy⟩
      have HB := Lib.hid HB0
      clear HB0
      obtain ⟨ad, x, rfl, hx, hxo, hbk, hc⟩ := (HT.out.2.1.below hS2.1.1).at_ (show k < np by omega)
      obtain ⟨hxa, hx0, hxn⟩ := hxo
      have i1 : (0 : Int) ≤ ((k : Nat) : Int) := by omega
      have i2 : ((k : Nat) : Int) < (np : Int) := by omega
      have dd : decide (((k : Nat) : Int) < (np : Int)) = true := decide_eq_true i2
      have hS3 : StK w p g (.slice (some ad) np cp) ((ad.add k)) (.slice x.A x.n x.c) w2.drew := ⟨hS2.1.drew hp, hS2.2, hc⟩
      have hcell1 := hS2.2
      have HK0 : 0 < k → lessF x.key p = true ∨ x.key = p := fun _ => .inl (IH.out.2.1 k _ (by omega) (by rw [List.getElem?_map, hx]; rfl))
      have HK := Lib.hid HK0
      clear HK0
      have X := Lib.hid (And.intro hx (And.intro hxa (show Up ((cns x.hs).map Cn.p) from (HT.out.1.up.page (List.mem_of_getElem? hx)).up)))
      clear hx hxa hc hx0
      go_wp2_with (fail)
      go_region_held3 (fun w' => StK w p g (.slice (some ad) np cp) ((ad.add k)) (.slice x.A x.n x.c) w') (first | exact hS4 | exact hS3)
        (first | (go_at_call 106; (with_reducible refine (searchC_any x.A x.n x.c x.hs p _ (X.out.2.1.below (Below.refl _ _).drew) hp (by omega) X.out.2.2).mono ?_); rintro e w4 ⟨j, rfl, hj, hb4⟩; (generalize hqc : decide (((cns x.hs).map Cn.p)[j]? = some p) = qc); have hS4 : StK w p g (.slice (some ad) np cp) ((ad.add k)) (.slice x.A x.n x.c) w4 := ⟨hS3.1.below hp hb4, cell_keep hS3.2.1 hb4, cell_keep hS3.2.2 hb4⟩))
      rename_i hHeldX
      clear hHeldX hb4 hS3
      have Z := Lib.hid (And.intro hS4.1.1 (And.intro hj hqc))
      clear hS4 hj hS2 hqc
      go_wp2_with (fail)
      go_ret3
      exact ⟨k, j, qc, rfl, .inr ⟨x, X.out.1, Z.out.2.1, Z.out.2.2.symm, HB.out.1, HB.out.2, HK.out⟩, Z.out.1⟩
end Go.Proofs.Ytofclanljhfkiaa
/- All coins of a table. -/
namespace Go.Proofs.Ytofclanljhfkiaa
open Go.RowKit Go.Proofs En Co
set_option linter.unusedVariables false
set_option linter.unusedSimpArgs false
set_option maxRecDepth 20000
attribute [local go_sem] nil_bytes nil_coins

/-- a page as a part -/
def Pg.part (x : Pg) : Part := ⟨x.A, x.n, x.c, pcs x.hs⟩
theorem pages_cells (gs : List Pg) : (gs.map Pg.part).map Part.cell = gs.map Pg.cell := by rw [List.map_map]; rfl
theorem pages_parts (gs : List Pg) : parts (gs.map Pg.part) = pcs (allC gs) := by
  induction gs with
  | nil => rfl
  | cons x r ih =>
    have h : parts ((x :: r).map Pg.part) = pcs x.hs ++ parts (r.map Pg.part) := rfl
    rw [h, ih, ← pcs_append]
    rfl
theorem pages_many {gs : List Pg} (h : ∀ x ∈ gs, x.hs.length = x.n) : many (gs.map Pg.part) = (allC gs).length := by
  induction gs with
  | nil => rfl
  | cons x r ih =>
    have h1 : many ((x :: r).map Pg.part) = x.n + many (r.map Pg.part) := by unfold many; simp [Pg.part]
    have h2 : allC (x :: r) = x.hs ++ allC r := rfl
    rw [h1, ih (fun y hy => h y (List.mem_cons_of_mem _ hy)), h2, List.length_append, h x (List.mem_cons_self ..)]
theorem mem_allC {gs : List Pg} {m : Cm} (h : m ∈ allC gs) : ∃ x ∈ gs, m ∈ x.hs := List.mem_flatMap.1 h
theorem Tab.coins {w : World} {base g : Nat} {P : Option Addr} {np cp : Nat} {gs : List Pg} (h : Tab w base g P np cp gs) : ∀ m ∈ allC gs, m.ok w := fun m hm => by
  obtain ⟨x, hx, hmx⟩ := mem_allC hm
  exact (h.own x hx).1.cm m hmx

set_option maxRecDepth 20000 in
set_option maxHeartbeats 1000000 in
theorem allT_any {w : World} {base g : Nat} {P : Option Addr} {np cp : Nat} {gs : List Pg} (h : Tab w base g P np cp gs) :
    Calls Try.prog 19 #[.pointer (some ⟨g, 0, none⟩)] w fun e w' => ∃ A d hs, e = .returned (.slice A (allC gs).length d) ∧ cns hs = cns (allC gs) ∧ OwnP w' w.heap.size A (allC gs).length d hs ∧ Below w.heap.size w w' := by
  have C := Lib.hid (off_at w g true _ _ h.row)
  have h1 : w.cell? ⟨g, 1, none⟩ = some (.slice P np cp) := (row_cells h.row 1).1
  have hm := pages_many (gs := gs) fun x hx => (h.own x hx).1.len
  have hmost := h.most
  have hok : ∀ q ∈ gs.map Pg.part, q.ok w 37 := by
    intro q hq
    obtain ⟨x, hx, rfl⟩ := List.mem_map.1 hq
    exact ⟨(h.own x hx).1.row.rd, pcs_one⟩
  have CC := concatC_any P np cp (gs.map Pg.part) w (by rw [pages_cells]; exact h.pages.rd) hok (by rw [hm]; omega) (by have := h.np_le; omega)
  rw [hm, pages_parts] at CC
  have CC := Lib.hid CC
  have CO := Lib.hid h.coins
  generalize hn : (allC gs).length = n at *
  have HN := Lib.hid hn
  clear h hm hok hn
  go_enter Try.func19, Try.ntmps19
  go_wp2_with (fail)
  refine C.out.mono ?_
  rintro e w0 ⟨rfl, rfl⟩
  go_wp2_with (fail)
  refine CC.out.mono ?_
  rintro e w1 ⟨A1, d1, rfl, ho1, hb1⟩
  have ha : ArgP w1 A1 n d1 (allC gs) := ⟨ho1.rd, fun m hm => (CO.out m hm).below hb1, HN.out, (Own.len_cap ho1).1, (Own.len_cap ho1).2⟩
  go_wp2_with (fail)
  refine (all_any A1 n d1 (allC gs) w1 ha (by omega)).mono ?_
  rintro e w2 ⟨A2, d2, hs, rfl, hc, ho2, hb2⟩
  have H2 := Lib.hid (And.intro hc (And.intro (ho2.mono hb1.size) (bThen hb1 hb2)))
  clear hc ho2 hb2 ho1 hb1 ha
  go_wp2_with (fail)
  go_ret
  exact ⟨A2, d2, hs, rfl, H2.out.1, H2.out.2.1, H2.out.2.2⟩
end Go.Proofs.Ytofclanljhfkiaa
/- The bytes of a table. -/
namespace Go.Proofs.Ytofclanljhfkiaa
open Go.RowKit Go.Proofs En Co
set_option linter.unusedVariables false
set_option linter.unusedSimpArgs false
set_option maxRecDepth 20000
attribute [local go_sem ↓] ld_point_eq ld_coin_eq ld_hash_eq st_point_eq st_coin_eq bd_point_eq bd_coin_eq eq_point_eq ne_point_eq al_coin_eq al_point_eq
attribute [local go_sem] ld_point_run ld_coin_run ld_hash_run st_point_run st_coin_run bd_point_zero bd_coin_zero bd_point_of bd_coin_of hash_at rowIs_34 rowIs_37 rowIs_both hasAt_both cellsAt_both eq_point_run ne_point_run guard_pt al_coin_run al_point_run al_coin_row al_point_row nil_bytes nil_coins

/-- the bytes of coins, of a page, of a table -/
def coinsF (l : List Cn) : List Int := l.flatMap fun c => (putCF c).1
def pageF (l : List Cn) : List Int := countF l.length ++ coinsF l
def tableF (T : List (List Cn)) : List Int := countF T.length ++ T.flatMap pageF
def Pg.cs (x : Pg) : List Cn := cns x.hs
def tblOf (gs : List Pg) : List (List Cn) := gs.map Pg.cs
theorem coinsF_next {l : List Cn} {j : Nat} {c : Cn} (h : l[j]? = some c) : coinsF (l.take (j + 1)) = coinsF (l.take j) ++ (putCF c).1 := by
  unfold coinsF
  rw [take_next h, List.flatMap_append]
  simp
theorem pagesF_next {T : List (List Cn)} {j : Nat} {l : List Cn} (h : T[j]? = some l) : (T.take (j + 1)).flatMap pageF = (T.take j).flatMap pageF ++ pageF l := by
  rw [take_next h, List.flatMap_append]
  simp
theorem coinsF_len {l : List Cn} (h : ∀ c ∈ l, c.ok) : (coinsF l).length ≤ 200 * l.length := by
  unfold coinsF
  induction l with
  | nil => simp
  | cons c r ih =>
    have h1 := putCF_len (c := c) (p := (putCF c).1) (q := (putCF c).2) (h c (List.mem_cons_self ..)).p rfl
    have h2 := ih (fun x hx => h x (List.mem_cons_of_mem _ hx))
    rw [List.flatMap_cons, List.length_append, List.length_cons]
    omega
theorem countF_len9 (n : Int) : (countF n).length ≤ 9 := by
  unfold countF
  split <;> (try split) <;> (try split) <;> simp [lowF_length]
theorem pagesF_len {T : List (List Cn)} (h : ∀ l ∈ T, 0 < l.length ∧ ∀ c ∈ l, c.ok) : (T.flatMap pageF).length ≤ 209 * (T.flatMap id).length := by
  induction T with
  | nil => simp
  | cons l r ih =>
    have h1 := coinsF_len (h l (List.mem_cons_self ..)).2
    have h0 := (h l (List.mem_cons_self ..)).1
    have h2 := ih (fun x hx => h x (List.mem_cons_of_mem _ hx))
    have h3 := countF_len9 l.length
    rw [List.flatMap_cons, List.flatMap_cons, List.length_append, List.length_append]
    have h4 : (pageF l).length = (countF l.length).length + (coinsF l).length := by unfold pageF; rw [List.length_append]
    simp only [id]
    omega
theorem tbl_at {gs : List Pg} {j : Nat} {x : Pg} (h : gs[j]? = some x) : (tblOf gs)[j]? = some x.cs := by unfold tblOf; rw [List.getElem?_map, h]; rfl
theorem tbl_many (gs : List Pg) : ((tblOf gs).flatMap id).length = (allC gs).length := by
  induction gs with
  | nil => rfl
  | cons x r ih =>
    have h1 : (tblOf (x :: r)).flatMap id = x.cs ++ (tblOf r).flatMap id := rfl
    have h2 : allC (x :: r) = x.hs ++ allC r := rfl
    rw [h1, h2, List.length_append, List.length_append, ih]
    unfold Pg.cs
    rw [cns_length]
theorem Tab.tbl {w : World} {base g : Nat} {P : Option Addr} {np cp : Nat} {gs : List Pg} (h : Tab w base g P np cp gs) : ∀ l ∈ tblOf gs, 0 < l.length ∧ ∀ c ∈ l, c.ok := by
  intro l hl
  obtain ⟨x, hx, rfl⟩ := List.mem_map.1 hl
  refine ⟨?_, fun c hc => ?_⟩
  · unfold Pg.cs; rw [cns_length, (h.own x hx).1.len]; exact (h.own x hx).2.1
  · obtain ⟨m, hm, rfl⟩ := List.mem_map.1 hc
    exact ((h.own x hx).1.ok m hm).1
theorem Tab.bytes_len {w : World} {base g : Nat} {P : Option Addr} {np cp : Nat} {gs : List Pg} (h : Tab w base g P np cp gs) (j : Nat) : (((tblOf gs).take j).flatMap pageF).length ≤ 418000 := by
  have h1 := pagesF_len (T := (tblOf gs).take j) fun l hl => h.tbl l (List.mem_of_mem_take hl)
  have h2 : (((tblOf gs).take j).flatMap id).length ≤ ((tblOf gs).flatMap id).length := by
    have h3 : (tblOf gs).flatMap id = ((tblOf gs).take j).flatMap id ++ ((tblOf gs).drop j).flatMap id := by rw [← List.flatMap_append, List.take_append_drop]
    rw [h3, List.length_append]
    omega
  have h4 := tbl_many gs
  have h5 := h.most
  omega

set_option maxRecDepth 20000 in
set_option maxHeartbeats 2000000 in
theorem bytesT_any {w : World} {base g : Nat} {P : Option Addr} {np cp : Nat} {gs : List Pg} (h : Tab w base g P np cp gs) :
    Calls Try.prog 20 #[.pointer (some ⟨g, 0, none⟩)] w fun e w' => ∃ A d, e = .returned (.slice A (tableF (tblOf gs)).length d) ∧ OwnB w' w.heap.size A (tableF (tblOf gs)).length d (tableF (tblOf gs)) ∧ Below w.heap.size w w' := by
  have C := Lib.hid (off_at w g true _ _ h.row)
  have h1 : w.cell? ⟨g, 1, none⟩ = some (.slice P np cp) := (row_cells h.row 1).1
  have hnp := h.np_le
  have hl := h.len
  have hcap := h.arg.cap
  have hmax := h.arg.max
  have wnp : IntKind.u64.wrap (np : Int) = np := wrap_u64 (by omega)
  obtain ⟨c0, hc0⟩ : ∃ c0, countF np = c0 := ⟨_, rfl⟩
  have c09 := countF_len9 np
  rw [hc0] at c09
  have HT := Lib.hid (And.intro h (And.intro hl hc0))
  clear h hl hc0
  go_enter Try.func20, Try.ntmps20
  go_wp2_with (fail)
  refine C.out.mono ?_
  rintro e w0 ⟨rfl, rfl⟩
  go_wp2_with (fail)
  refine (count_is w0 (by omega) HT.out.2.2).mono ?_
  rintro e w1 ⟨A1, k1, rfl, ho1, hb1⟩
  have h11 := cell_keep h1 hb1
  go_wp2_with (fail)
  go_loopw [3, 24] (fun v i wr => ∃ j : Nat, j ≤ np ∧ i = .int .i64 j ∧ (∃ A k q out, v = .slice A q k ∧ out = c0 ++ ((tblOf gs).take j).flatMap pageF ∧ OwnB wr w0.heap.size A q k out) ∧ Below w0.heap.size w0 wr) (fun _ i _ => np - (intOf i).toNat)
  case atStart => exact ⟨0, by omega, rfl, ⟨A1, k1, _, c0, rfl, by simp, ho1⟩, hb1⟩
  case round =>
    clear ho1 hb1 h11
    obtain ⟨j, hj, rfl, ⟨A, k, q, out, rfl, hout, ho⟩, hbel⟩ := hrel
    by_cases hlt : j < np
    · obtain ⟨ad, x, rfl, hx, hxo, hbk, hc⟩ := (HT.out.1.arg.below hbel).at_ hlt
      obtain ⟨hxa, hx0, hxn⟩ := hxo
      have hq : q ≤ 418009 := by
        have h2 := HT.out.1.bytes_len j
        have h3 := ho.len
        rw [hout, List.length_append] at h3
        omega
      have wxn : IntKind.u64.wrap (x.n : Int) = x.n := wrap_u64 (by omega)
      have hxl := hxa.len
      have hxcap := hxa.cap
      have hxmax := hxa.max
      obtain ⟨cx, hcx⟩ : ∃ cx, countF x.n = cx := ⟨_, rfl⟩
      have cx9 := countF_len9 x.n
      rw [hcx] at cx9
      have hz := hbel.size
      obtain ⟨a2, _, hA, _⟩ := hxa.at_ hx0
      rw [hA] at hc
      have HA := Lib.hid hA
      clear hA
      have X := Lib.hid (And.intro hx (And.intro hxa (And.intro hcx (And.intro hout (And.intro hbel ho)))))
      have HXL := Lib.hid hxl
      clear hx hxa hcx hout hbel ho hxl
      go_wp2_with (fail)
      refine (count_is wr (by omega) X.out.2.2.1).mono ?_
      rintro e w2 ⟨A2, k2, rfl, ho2, hb2⟩
      have hbel2 := bThen X.out.2.2.2.2.1 hb2
      have hz2 := hbel2.size
      go_wp2_with (at_builtin; refine Stop.mk ?_)
      refine Stop.out ?_
      refine wpList_appN _ rfl (.tmp 28) (.tmp 32) _ rfl w0.heap.size 5 .u8 1 Try.underlying40 inf_b A q k out rfl (OwnN.below X.out.2.2.2.2.2 hb2) A2 cx.length k2 cx rfl (OwnN.rd ho2) (by unfold maxLen; omega) (by omega) hz2 ?_
      intro A3 k3 w3 ho3 hg3 _
      have hb3 : Below w0.heap.size w0 w3 := hbel2.grown hg3 hz2 (fun y hy => (OwnN.lt (OwnN.below X.out.2.2.2.2.2 hb2) y hy).1)
      have hxa3 : ArgP w3 x.A x.n x.c x.hs := (HT.out.1.below hb3).arg.ok x (List.mem_of_getElem? X.out.1) |>.1
      have Y := Lib.hid (And.intro ho3 (And.intro hb3 hxa3))
      clear ho2 hb2 hbel2 hz2 ho3 hg3 hb3 hxa3
      go_wp2_with (fail)
      go_loopw [3, 36] (fun v i wr => ∃ t : Nat, t ≤ x.n ∧ i = .int .i64 t ∧ (∃ A k r o2, v = .slice A r k ∧ o2 = out ++ cx ++ coinsF (x.cs.take t) ∧ OwnB wr w0.heap.size A r k o2) ∧ Below w0.heap.size w0 wr) (fun _ i _ => x.n - (intOf i).toNat)
      case atStart => exact ⟨0, by omega, rfl, ⟨A3, k3, _, _, rfl, by simp [coinsF], Y.out.1⟩, Y.out.2.1⟩
      case round =>
        obtain ⟨t, ht, rfl, ⟨A4, k4, r, o2, rfl, ho2e, ho4⟩, hb4⟩ := hrel
        have hr : r ≤ 418009 + 9 + 200 * 1000000 := by
          have h3 := ho4.len
          have h4 := (Own.len_cap X.out.2.2.2.2.2).1
          have h5 := X.out.2.2.2.2.2.len
          have h6 : (coinsF (x.cs.take t)).length ≤ 200 * (x.cs.take t).length := coinsF_len fun c hc => by
            obtain ⟨m, hm, rfl⟩ := List.mem_map.1 (List.mem_of_mem_take hc)
            exact (X.out.2.1.ok m hm).c
          have h7 : (x.cs.take t).length ≤ t := List.length_take_le _ _
          rw [ho2e, List.length_append, List.length_append] at h3
          omega
        by_cases htl : t < x.n
        · obtain ⟨a3, m, hA3, hm, hok, hbk2, hc2⟩ := ((HT.out.1.below hb4).arg.ok x (List.mem_of_getElem? X.out.1) |>.1).at_ htl
          obtain rfl : a2 = a3 := Option.some.inj (HA.out.symm.trans hA3)
          clear hA3
          have hld := ld_coin_at wr (a2.add (t * 37)) m hok.c.p hc2
          have hzr := hb4.size
          have hokm := cc_ok hok.c.p
          have sl := slot_self wr (.cells (cc zm).toArray 57) (cc m).toArray
          obtain ⟨pb, pq, hpb⟩ : ∃ pb pq, putCF m.c = (pb, pq) := ⟨_, _, rfl⟩
          have hpl := putCF_len hok.c.p hpb
          have hcn : coinsF (x.cs.take (t + 1)) = coinsF (x.cs.take t) ++ pb := by
            have e : x.cs[t]? = some m.c := by unfold Pg.cs cns; rw [List.getElem?_map, hm]; rfl
            rw [coinsF_next e, hpb]
          have V := Lib.hid (And.intro hok (And.intro hpb (And.intro hcn (And.intro ho2e (And.intro ho4 hb4)))))
          clear hc2 hm hok hpb hcn ho2e ho4 hb4
          go_wp2_with (fail)
          refine (put06_is (V.out.1.below sl) V.out.2.1).mono ?_
          rintro e w5 ⟨A5, k5, rfl, ho5, hb5⟩
          have b5 := bThen sl hb5
          have hbel5 := bThen V.out.2.2.2.2.2 b5
          have hz5 := hbel5.size
          have o5 := OwnN.below V.out.2.2.2.2.1 b5
          go_wp2_with (at_builtin; refine Stop.mk ?_)
          refine Stop.out ?_
          refine wpList_appN _ rfl (.tmp 45) (.tmp 46) _ rfl w0.heap.size 5 .u8 1 Try.underlying40 inf_b A4 r k4 o2 rfl o5 A5 pb.length k5 pb rfl (OwnN.rd ho5) (by unfold maxLen; omega) (by omega) hz5 ?_
          intro A6 k6 w6 ho6 hg6 _
          have hb6 : Below w0.heap.size w0 w6 := hbel5.grown hg6 hz5 (fun y hy => (OwnN.lt o5 y hy).1)
          have W := Lib.hid (And.intro ho6 hb6)
          clear ho6 hb6 hg6 o5 hbel5 b5 hb5 ho5 hz5 sl hld hokm
          go_wp2_with (fail)
          go_roundw
          case rel => exact ⟨t + 1, by omega, by go_num, ⟨A6, k6, _, _, rfl, by rw [V.out.2.2.1, V.out.2.2.2.1, List.append_assoc (out ++ cx)], W.out.1⟩, W.out.2⟩
          case measure => simp [intOf]; omega
        · obtain rfl : t = x.n := by omega
          have e : x.cs.take x.n = x.cs := List.take_of_length_le (by unfold Pg.cs; rw [cns_length, X.out.2.1.len]; exact Nat.le_refl _)
          rw [e] at ho2e
          have V := Lib.hid (And.intro ho2e (And.intro ho4 hb4))
          clear ho2e ho4 hb4 e
          go_wp2_with (fail)
          go_roundw
          case rel =>
            refine ⟨j + 1, by omega, by go_num, ⟨A4, k4, r, o2, rfl, ?_, V.out.2.1⟩, V.out.2.2⟩
            rw [V.out.1, X.out.2.2.2.1, pagesF_next (tbl_at X.out.1), ← List.append_assoc]
            unfold pageF
            rw [show x.cs.length = x.n from by unfold Pg.cs; rw [cns_length, X.out.2.1.len], X.out.2.2.1]
            simp only [List.append_assoc]
          case measure => simp [intOf]; omega
    · obtain rfl : np = j := by omega
      have e : (tblOf gs).take np = tblOf gs := List.take_of_length_le (by unfold tblOf; rw [List.length_map, HT.out.2.1]; exact Nat.le_refl _)
      rw [e] at hout
      have hf : out = tableF (tblOf gs) := by rw [hout]; unfold tableF; rw [show (tblOf gs).length = np from by unfold tblOf; rw [List.length_map, HT.out.2.1], HT.out.2.2]
      have hlo := ho.len
      have V := Lib.hid (And.intro hf (And.intro ho (And.intro hbel hlo)))
      clear hout e hf ho hbel hlo
      go_wp2_with (fail)
      go_ret
      rw [← V.out.1, V.out.2.2.2]
      exact ⟨A, k, rfl, V.out.2.1, V.out.2.2.1⟩
end Go.Proofs.Ytofclanljhfkiaa
/- A coin of a table. -/
namespace Go.Proofs.Ytofclanljhfkiaa
open Go.RowKit Go.Proofs En Co
set_option linter.unusedVariables false
set_option linter.unusedSimpArgs false
set_option maxRecDepth 20000
attribute [local go_sem ↓] ld_point_eq ld_coin_eq ld_hash_eq st_point_eq st_coin_eq bd_point_eq bd_coin_eq eq_point_eq ne_point_eq al_coin_eq al_point_eq
attribute [local go_sem] ld_point_run ld_coin_run ld_hash_run st_point_run st_coin_run bd_point_zero bd_coin_zero bd_point_of bd_coin_of hash_at rowIs_34 rowIs_37 rowIs_both hasAt_both cellsAt_both eq_point_run ne_point_run guard_pt al_coin_run al_point_run al_coin_row al_point_row nil_bytes nil_coins

theorem Found.at_ {gs : List Pg} {p : Pt} {pg at_ : Nat} (h : Found gs p pg at_ true) : ∃ x m, gs[pg]? = some x ∧ x.hs[at_]? = some m ∧ m.c.p = p := by
  rcases h with ⟨_, _, _, h⟩ | ⟨x, hx, _, hd, _⟩
  · cases h
  · have h1 := of_decide_eq_true hd.symm
    unfold Pg.pts cns at h1
    rw [List.getElem?_map, List.getElem?_map] at h1
    cases hm : x.hs[at_]? with
    | none => rw [hm] at h1; cases h1
    | some m => rw [hm] at h1; exact ⟨x, m, hx, hm, Option.some.inj h1⟩

set_option maxRecDepth 20000 in
set_option maxHeartbeats 2000000 in
theorem getT_any {w : World} {base g : Nat} {P : Option Addr} {np cp : Nat} {gs : List Pg} (h : Tab w base g P np cp gs) (p : Pt) (hp : p.ok) :
    Calls Try.prog 41 #[.pointer (some ⟨g, 0, none⟩), .agg (pc p).toArray] w fun e w' =>
      ∃ (pg at_ : Nat) (is : Bool), Found gs p pg at_ is ∧ ((is = false ∧ e = .returned (.tuple #[.agg (cc zm).toArray, .int .i64 6])) ∨ (is = true ∧ ∃ x m A k, gs[pg]? = some x ∧ x.hs[at_]? = some m ∧ e = .returned (.tuple #[.agg (cc ⟨m.c, A, k⟩).toArray, .int .i64 0]) ∧ OwnB w' w.heap.size A m.c.l.length k m.c.l)) ∧ Below w.heap.size w w' := by
  obtain ⟨f0, g0⟩ := two_box w (.cells (pc p).toArray 54) (.cells (cc zm).toArray 57)
  have b0 : Below w.heap.size w ((w.alloc (.cells (pc p).toArray 54)).alloc (.cells (cc zm).toArray 57)) := belA ((Below.refl _ _).alloc (Nat.le_refl _) _) _ (Nat.le_refl _)
  obtain ⟨x0, y0⟩ := row_has hp f0
  have h0 := h.below b0
  have C := Lib.hid (off_at _ g true _ _ h0.row)
  have HT := Lib.hid (And.intro h (And.intro h0 (And.intro g0 b0)))
  clear h f0 g0 b0 h0
  go_enter Try.func41, Try.ntmps41
  go_wp2_with (fail)
  refine C.out.mono ?_
  rintro e w1 ⟨rfl, rfl⟩
  go_wp2_with (fail)
  refine (find_any HT.out.2.1 p hp).mono ?_
  rintro e w2 ⟨pg, at_, is, rfl, hf, hb2⟩
  have g2 := kept HT.out.2.2.1 hb2
  have bl2 := bThen HT.out.2.2.2 hb2
  have hr2 : rowIs w2 (w.heap.size + 1) 37 := rowIs_of g2 (by simpa using cc_length (m := zm) zeroPt_ok)
  have hokz := cc_ok (m := zm) zeroPt_ok
  have hokz2 : okAgg (cc ⟨zeroCn, none, 0⟩).toArray 37 := hokz
  clear hb2 x0 y0
  cases is with
  | false =>
    have Z := Lib.hid (And.intro hf (And.intro hr2 bl2))
    clear hf bl2 g2
    go_wp2_with (fail)
    refine bodyPost_ret (res_cell2 Try.results41 rfl (rd_coin_set Z.out.2.1 hokz.1)) rfl ?_
    exact ⟨pg, at_, false, Z.out.1, .inl ⟨rfl, rfl⟩, belSetRow Z.out.2.2 (by omega) _⟩
  | true =>
    obtain ⟨x, m, hx, hm, hmp⟩ := hf.at_
    have hT2 := HT.out.1.below bl2
    have hpl := (List.getElem?_eq_some_iff.1 hx).1
    have hlen := hT2.len
    have hpn : pg < np := by omega
    obtain ⟨ad, x', rfl, hx', hxo, hbk, hc⟩ := hT2.arg.at_ hpn
    obtain rfl : x' = x := Option.some.inj (hx'.symm.trans hx)
    obtain ⟨hxa, hx0, hxn⟩ := hxo
    have hml := (List.getElem?_eq_some_iff.1 hm).1
    have hxl := hxa.len
    have han : at_ < x'.n := by omega
    obtain ⟨a2, m', hA, hm', hok, hbk2, hc2⟩ := hxa.at_ han
    obtain rfl : m' = m := Option.some.inj (hm'.symm.trans hm)
    rw [hA] at hc
    have hld := ld_coin_at w2 (a2.add (at_ * 37)) m' hok.c.p hc2
    have h1 : w2.cell? ⟨g, 1, none⟩ = some (.slice (some ad) np cp) := (row_cells hT2.row 1).1
    have i1 : (0 : Int) ≤ (pg : Int) := by omega
    have i2 : (pg : Int) < (np : Int) := by omega
    have i3 : (0 : Int) ≤ (at_ : Int) := by omega
    have i4 : (at_ : Int) < (x'.n : Int) := by omega
    have CC := Lib.hid (copied_any m' w2 hok)
    have Z := Lib.hid (And.intro hf (And.intro g2 (And.intro bl2 (And.intro hx (And.intro hm hok)))))
    clear hf bl2 g2 hx hm hx' hm' hok hxa hT2 hA hc2 hr2 hlen hml hxl hpl
    go_wp2_with (fail)
    refine CC.out.mono ?_
    rintro e w3 ⟨A3, k3, rfl, ho3, hb3⟩
    have g3 := kept Z.out.2.1 hb3
    have hr3 : rowIs w3 (w.heap.size + 1) 37 := rowIs_of g3 (by simpa using cc_length (m := zm) zeroPt_ok)
    have hok3 := cc_ok (m := ⟨m'.c, A3, k3⟩) Z.out.2.2.2.2.2.c.p
    have bl3 := bThen Z.out.2.2.1 hb3
    have hne : blk A3 ≠ some (w.heap.size + 1) := fun e => by have := (OwnN.lt ho3 _ e).1; have := (Array.getElem?_eq_some_iff.1 Z.out.2.1).1; omega
    have Y := Lib.hid (And.intro hr3 (And.intro (Own.mono (Own.setRowOther ho3 hne (cc ⟨m'.c, A3, k3⟩).toArray) Z.out.2.2.1.size) bl3))
    clear g3 hb3 ho3 bl3 hne
    go_wp2_with (fail)
    refine bodyPost_ret (res_cell2 Try.results41 rfl (rd_coin_set Y.out.1 hok3.1)) rfl ?_
    exact ⟨pg, at_, true, Z.out.1, .inr ⟨rfl, x', m', A3, k3, Z.out.2.2.2.1, Z.out.2.2.2.2.1, rfl, Y.out.2.1⟩, belSetRow Y.out.2.2 (by omega) _⟩
end Go.Proofs.Ytofclanljhfkiaa
