/- Joined texts: TabH, TabI, TabJ. -/
import Derived.Test.YtofclanljhfkiaaM10
/- The searches: where a point stands among coins, among pages. -/
namespace Go.Proofs.Ytofclanljhfkiaa
open Go.RowKit Go.Proofs En Co
set_option linter.unusedVariables false
set_option linter.unusedSimpArgs false
set_option maxRecDepth 20000
attribute [local go_sem ↓] ld_point_eq ld_coin_eq ld_hash_eq st_point_eq st_coin_eq bd_point_eq bd_coin_eq eq_point_eq ne_point_eq al_coin_eq al_point_eq
attribute [local go_sem] ld_point_run ld_coin_run ld_hash_run st_point_run st_coin_run bd_point_zero bd_coin_zero bd_point_of bd_coin_of hash_at rowIs_34 rowIs_37 rowIs_both hasAt_both cellsAt_both eq_point_run ne_point_run guard_pt al_coin_run al_point_run al_coin_row al_point_row nil_bytes nil_coins

theorem orderF_neg (a b : Pt) : decide (orderF a b < 0) = lessF a b := by
  unfold orderF
  cases h : lessF a b with
  | true => simp
  | false =>
    simp only [Bool.false_eq_true, if_false]
    split <;> decide
theorem orderF_zero {a b : Pt} (ha : a.ok) (hb : b.ok) : (orderF a b == 0) = decide (a = b) := by
  unfold orderF
  by_cases hab : a = b
  · subst hab
    rw [lessF_self]
    simp
  · have h1 := lessF_total ha hb hab
    rw [decide_eq_false hab]
    cases h : lessF a b with
    | true => simp
    | false =>
      rw [h] at h1
      cases h2 : lessF b a with
      | true => simp
      | false => rw [h2] at h1; cases h1

/-- points that rise -/
def Up (ks : List Pt) : Prop := ∀ (i j : Nat) (a b : Pt), i < j → ks[i]? = some a → ks[j]? = some b → lessF a b = true
/-- where a point stands -/
def Stands (ks : List Pt) (p : Pt) (i : Nat) : Prop := i ≤ ks.length ∧ (∀ (k : Nat) (a : Pt), k < i → ks[k]? = some a → lessF a p = true) ∧ (∀ (k : Nat) (a : Pt), i ≤ k → ks[k]? = some a → lessF a p = false)

/-- the point in its box, and nothing below that has turned -/
abbrev StB (w : World) (p : Pt) (w' : World) : Prop := Below w.heap.size w w' ∧ w'.heap[w.heap.size]? = some (.cells (pc p).toArray 54 (0, 0)) ∧ (hasAt w' w.heap.size 0 34 ∧ cellsAt w' w.heap.size 0 34 = (pc p).toArray)
section
variable {w w' w2 : World} {p : Pt}
theorem StB.of (hp : p.ok) (h : Below w.heap.size w w') (h0 : w'.heap[w.heap.size]? = some (.cells (pc p).toArray 54 (0, 0))) : StB w p w' := ⟨h, h0, row_has hp h0⟩
theorem StB.below (hp : p.ok) (h : StB w p w') (hbl : Below w'.heap.size w' w2) : StB w p w2 := StB.of hp (bThen h.1 hbl) (kept h.2.1 hbl)
theorem StB.drew (hp : p.ok) (h : StB w p w') : StB w p w'.drew := StB.of hp h.1.drew h.2.1
end

theorem cells_below {w w' : World} {a : Addr} {k : Nat} {m : Cm} (hb : Below w.heap.size w w') (hbk : a.block < w.heap.size) (hc : ∀ j v, (cc m)[j]? = some v → w.cell? ((a.add k).add j) = some v) : ∀ j v, (cc m)[j]? = some v → w'.cell? ((a.add k).add j) = some v := fun j v hv => by
  rw [← hc j v hv]
  exact World.cell?_of_block (hb.block _ (by rw [block_add, block_add]; exact hbk))
/-- .. and one coin that is read -/
abbrev StL (w : World) (p : Pt) (a : Addr) (m : Cm) (w' : World) : Prop := StB w p w' ∧ (ld_coin (.pointer (some a))).run Try.prog w' = .ok (.agg (cc m).toArray) w'
theorem StL.below {w wr w2 : World} {p : Pt} {a : Addr} {k : Nat} {m : Cm} (h : StL w p (a.add k) m wr.drew) (hp : p.ok) (hmp : m.c.p.ok) (hbk : a.block < wr.heap.size) (hc : ∀ j v, (cc m)[j]? = some v → wr.cell? ((a.add k).add j) = some v) (hb : Below wr.drew.heap.size wr.drew w2) : StL w p (a.add k) m w2 :=
  ⟨h.1.below hp hb, ld_coin_at w2 _ m hmp (cells_below (w := wr.drew) hb hbk hc)⟩

set_option maxRecDepth 20000 in
set_option maxHeartbeats 1000000 in
theorem searchC_any (B : Option Addr) (n c : Nat) (hs : List Cm) (p : Pt) (w : World) (hb : ArgP w B n c hs) (hp : p.ok) (hn : n ≤ 1000000000) (hup : Up ((cns hs).map Cn.p)) :
    Calls Try.prog 106 #[.slice B n c, .agg (pc p).toArray, .func (Fn.func 107) #[] #[]] w fun e w' =>
      ∃ i : Nat, e = .returned (.tuple #[.int .i64 i, .bool (decide (((cns hs).map Cn.p)[i]? = some p))]) ∧ Stands ((cns hs).map Cn.p) p i ∧ Below w.heap.size w w' := by
  have hlen := hb.len
  have hS0 : StB w p (w.alloc (.cells (pc p).toArray 54)) := StB.of hp ((Below.refl _ _).alloc (Nat.le_refl _) _) (heap_alloc_new w _)
  have ML := Lib.hid (And.intro hlen (And.intro hb hup))
  have hcap := hb.cap
  have hmax := hb.max
  clear hlen hb hup
  go_enter Try.func106, Try.ntmps106
  go_wp2_with (fail)
  go_loopw [9, 10] (fun x y wr => ∃ i j : Nat, i ≤ j ∧ j ≤ n ∧ x = .int .i64 i ∧ y = .int .i64 j ∧ (∀ k a, k < i → ((cns hs).map Cn.p)[k]? = some a → lessF a p = true) ∧ (∀ k a, j ≤ k → ((cns hs).map Cn.p)[k]? = some a → lessF a p = false) ∧ StB w p wr) (fun x y _ => (intOf y).toNat - (intOf x).toNat)
  case atStart =>
    refine ⟨0, n, Nat.zero_le _, Nat.le_refl _, rfl, rfl, fun k a h => by omega, fun k a h h2 => ?_, hS0⟩
    have := (List.getElem?_eq_some_iff.1 h2).1
    rw [List.length_map, cns_length, ML.out.1] at this
    omega
  case round =>
    clear hS0
    obtain ⟨i, j, hij, hjn, rfl, rfl, hlo, hhi, hS⟩ := hrel
    have R := Lib.hid (And.intro hlo hhi)
    clear hlo hhi
    by_cases hlt : i < j
    · obtain ⟨h, hh⟩ : ∃ h, h = (i + j) / 2 := ⟨_, rfl⟩
      have h1 : i ≤ h := by omega
      have h2 : h < j := by omega
      obtain ⟨ad, m, rfl, hm, hok, hbk, hc⟩ := (ML.out.2.1.below hS.1).at_ (show h < n by omega)
      have hld := ld_coin_at wr.drew (ad.add (h * 37)) m hok.c.p hc
      have hS1 := hS.drew hp
      have C := Lib.hid (fun w' => find2_any m p w' hok.c.p hp)
      have on := orderF_neg m.c.p p
      have hmk : ((cns hs).map Cn.p)[h]? = some m.c.p := by unfold cns; rw [List.getElem?_map, List.getElem?_map, hm]; rfl
      have X := Lib.hid (And.intro hmk hok)
      generalize orderF m.c.p p = r at *
      have hhI : ((i : Int) + (j : Int)) / 2 = (h : Int) := by omega
      have i1 : (0 : Int) ≤ (h : Int) := by omega
      have i2 : (h : Int) < (n : Int) := by omega
      have wh : IntKind.i64.wrap ((h : Int) + 1) = ((h + 1 : Nat) : Int) := by rw [wrap_i64s (by omega)]; omega
      have CEL := Lib.hid (And.intro hc hok.c.p)
      have hS1 : StL w p (ad.add (h * 37)) m wr.drew := ⟨hS1, hld⟩
      clear hc hm hok hS hmk hh hld
      cases hq : lessF m.c.p p with
      | true =>
        rw [hq] at on
        have Q := Lib.hid hq
        clear hq
        go_wp2_with (fail)
        clear hhI
        go_region_held3 (fun w' => StL w p (ad.add (h * 37)) m w') (first | exact hS2 | exact hS1)
          (first | (go_at_call 107; (with_reducible refine (C.out _).mono ?_); rintro e w2 ⟨rfl, hb2⟩; have hS2 := hS1.below hp CEL.out.2 hbk CEL.out.1 hb2))
        rename_i hHeldX
        clear hHeldX
        have Z := Lib.hid hS2.1
        clear hS2 hb2 hS1 C
        go_wp2_with (fail)
        go_roundw
        case rel =>
          refine ⟨h + 1, j, by omega, hjn, by go_num, rfl, fun k a hk ha => ?_, R.out.2, Z.out⟩
          by_cases hkh : k = h
          · subst hkh
            rw [X.out.1] at ha
            rw [← Option.some.inj ha]
            exact Q.out
          · exact lessF_trans (ML.out.2.2 k h a m.c.p (by omega) ha X.out.1) Q.out
        case measure => simp [intOf]; omega
      | false =>
        rw [hq] at on
        have Q := Lib.hid hq
        clear hq
        go_wp2_with (fail)
        clear hhI
        go_region_held3 (fun w' => StL w p (ad.add (h * 37)) m w') (first | exact hS2 | exact hS1)
          (first | (go_at_call 107; (with_reducible refine (C.out _).mono ?_); rintro e w2 ⟨rfl, hb2⟩; have hS2 := hS1.below hp CEL.out.2 hbk CEL.out.1 hb2))
        rename_i hHeldX
        clear hHeldX
        have Z := Lib.hid hS2.1
        clear hS2 hb2 hS1 C
        go_wp2_with (fail)
        go_roundw
        case rel =>
          refine ⟨i, h, by omega, by omega, rfl, by go_num, R.out.1, fun k a hk ha => ?_, Z.out⟩
          by_cases hkh : k = h
          · subst hkh
            rw [X.out.1] at ha
            rw [← Option.some.inj ha]
            exact Q.out
          · have h3 := ML.out.2.2 h k m.c.p a (by omega) X.out.1 ha
            cases h4 : lessF a p with
            | false => rfl
            | true => have := lessF_trans h3 h4; rw [Q.out] at this; cases this
        case measure => simp [intOf]; omega
    · obtain rfl : i = j := by omega
      by_cases hin : i < n
      · obtain ⟨ad, m, rfl, hm, hok, hbk, hc⟩ := (ML.out.2.1.below hS.1).at_ hin
        have hld := ld_coin_at wr.drew (ad.add (i * 37)) m hok.c.p hc
        have hS1 := hS.drew hp
        have C := Lib.hid (fun w' => find2_any m p w' hok.c.p hp)
        have on := orderF_zero hok.c.p hp
        have hmk : ((cns hs).map Cn.p)[i]? = some m.c.p := by unfold cns; rw [List.getElem?_map, List.getElem?_map, hm]; rfl
        have X := Lib.hid (And.intro hmk hok)
        generalize orderF m.c.p p = r at *
        have i1 : (0 : Int) ≤ (i : Int) := by omega
        have i2 : (i : Int) < (n : Int) := by omega
        have d1 : decide ((i : Int) < (n : Int)) = true := decide_eq_true i2
        have hdec : decide (((cns hs).map Cn.p)[i]? = some p) = decide (m.c.p = p) := by rw [hmk]; simp
        have D := Lib.hid hdec
        generalize decide (m.c.p = p) = q at *
        have CEL := Lib.hid (And.intro hc hok.c.p)
        have hS1 : StL w p (ad.add (i * 37)) m wr.drew := ⟨hS1, hld⟩
        clear hc hm hok hS hmk hdec hld
        go_wp2_with (fail)
        go_region_held3 (fun w' => StL w p (ad.add (i * 37)) m w') (first | exact hS2 | exact hS1)
          (first | (go_at_call 107; (with_reducible refine (C.out _).mono ?_); rintro e w2 ⟨rfl, hb2⟩; have hS2 := hS1.below hp CEL.out.2 hbk CEL.out.1 hb2))
        rename_i hHeldX
        clear hHeldX
        have Z := Lib.hid hS2.1
        clear hS2 hb2 hS1 C
        go_wp2_with (fail)
        go_ret2
        exact ⟨i, by rw [D.out]; rfl, ⟨by rw [List.length_map, cns_length, ML.out.1]; omega, R.out.1, R.out.2⟩, Z.out.1⟩
      · obtain rfl : n = i := by omega
        have d1 : decide ((n : Int) < (n : Int)) = false := decide_eq_false (by omega)
        have hnone : ((cns hs).map Cn.p)[n]? = none := List.getElem?_eq_none (by rw [List.length_map, cns_length, ML.out.1]; omega)
        have D := Lib.hid hnone
        have Z := Lib.hid hS
        clear hS hnone
        go_wp2_with (fail)
        go_quiet (fail)
        have bl := belN Z.out.1 ‹Nat›
        go_wp2_with (fail)
        go_ret2
        exact ⟨n, by rw [D.out]; rfl, ⟨by rw [List.length_map, cns_length, ML.out.1]; exact Nat.le_refl _, R.out.1, R.out.2⟩, bl⟩
end Go.Proofs.Ytofclanljhfkiaa
/- The search among pages. -/
namespace Go.Proofs.Ytofclanljhfkiaa
open Go.RowKit Go.Proofs En Co
set_option linter.unusedVariables false
set_option linter.unusedSimpArgs false
set_option maxRecDepth 20000
attribute [local go_sem ↓] ld_point_eq ld_coin_eq ld_hash_eq st_point_eq st_coin_eq bd_point_eq bd_coin_eq eq_point_eq ne_point_eq al_coin_eq al_point_eq
attribute [local go_sem] ld_point_run ld_coin_run ld_hash_run st_point_run st_coin_run bd_point_zero bd_coin_zero bd_point_of bd_coin_of hash_at rowIs_34 rowIs_37 rowIs_both hasAt_both cellsAt_both eq_point_run ne_point_run guard_pt al_coin_run al_point_run al_coin_row al_point_row nil_bytes nil_coins

/-- a page as it lies in memory -/
structure Pg where
  A : Option Addr
  n : Nat
  c : Nat
  hs : List Cm
def Pg.cell (g : Pg) : Value := .slice g.A g.n g.c
def Pg.ok (w : World) (g : Pg) : Prop := ArgP w g.A g.n g.c g.hs ∧ 0 < g.n ∧ g.n ≤ 1000000
def Pg.key (g : Pg) : Pt := (g.hs.headD zm).c.p
theorem Pg.ok.below {w w' : World} {g : Pg} (h : g.ok w) (hb : Below w.heap.size w w') : g.ok w' := ⟨h.1.below hb, h.2⟩
theorem Pg.ok.first {w : World} {g : Pg} (h : g.ok w) : ∃ m, g.hs[0]? = some m ∧ g.key = m.c.p ∧ m.c.p.ok := by
  have hl := h.1.len
  have h0 := h.2.1
  cases hh : g.hs with
  | nil => rw [hh] at hl; simp at hl; omega
  | cons m r => exact ⟨m, rfl, by unfold Pg.key; rw [hh]; rfl, (h.1.ok m (by rw [hh]; exact List.mem_cons_self ..)).c.p⟩
/-- pages that a function is handed -/
structure ArgT (w : World) (P : Option Addr) (n c : Nat) (gs : List Pg) : Prop where
  rd : Rd w 1 P n (gs.map Pg.cell)
  ok : ∀ g ∈ gs, g.ok w
  cap : n ≤ c
  max : c ≤ maxLen
theorem ArgT.len {w : World} {P : Option Addr} {n c : Nat} {gs : List Pg} (h : ArgT w P n c gs) : gs.length = n := by have := h.rd.1; simpa using this
theorem ArgT.below {w w' : World} {P : Option Addr} {n c : Nat} {gs : List Pg} (h : ArgT w P n c gs) (hb : Below w.heap.size w w') : ArgT w' P n c gs :=
  ⟨h.rd.below hb, fun g hg => (h.ok g hg).below hb, h.cap, h.max⟩
theorem ArgT.at_ {w : World} {P : Option Addr} {n c : Nat} {gs : List Pg} (h : ArgT w P n c gs) {j : Nat} (hj : j < n) :
    ∃ ad g, P = some ad ∧ gs[j]? = some g ∧ g.ok w ∧ ad.block < w.heap.size ∧ w.cell? (ad.add j) = some (.slice g.A g.n g.c) := by
  obtain ⟨ad, e, hb, hc⟩ := h.rd.one hj
  have hl : j < gs.length := by have := h.len; omega
  have hx : gs[j]? = some gs[j] := List.getElem?_eq_getElem hl
  refine ⟨ad, gs[j], e, hx, h.ok _ (List.getElem_mem ..), hb, ?_⟩
  rw [hc, List.getElem?_map, hx]
  rfl

/-- the point in its box, and a point that is read -/
abbrev StF (w : World) (p : Pt) (a : Addr) (q : Pt) (w' : World) : Prop := StB w p w' ∧ (ld_point (.pointer (some a))).run Try.prog w' = .ok (.agg (pc q).toArray) w'
set_option maxRecDepth 20000 in
set_option maxHeartbeats 1000000 in
theorem find1_any (g : Pg) (p : Pt) (w : World) (hg : g.ok w) (hp : p.ok) :
    Calls Try.prog 104 #[.slice g.A g.n g.c, .agg (pc p).toArray] w fun e w' => e = .returned (.int .i64 (orderF g.key p)) ∧ Below w.heap.size w w' := by
  obtain ⟨m, hm, hk, hmp⟩ := hg.first
  rw [hk]
  obtain ⟨A, n, c, hs⟩ := g
  obtain ⟨ad, m', e, hm', hok, hbk, hc⟩ := hg.1.at_ hg.2.1
  obtain rfl : m' = m := Option.some.inj (hm'.symm.trans hm)
  have e : A = some ad := e
  subst e
  have hn : 0 < n := hg.2.1
  have hcap : n ≤ c := hg.1.cap
  have hmax : c ≤ maxLen := hg.1.max
  have i2 : (0 : Int) < (n : Int) := by omega
  have e0 : ad.add (0 * 37) = ad := by unfold Addr.add; simp
  have hc' : ∀ j v, (cc m')[j]? = some v → ((w.alloc (.cells (pc p).toArray 54)).drew).cell? (ad.add j) = some v := fun j v hv => by
    have h1 := cells_below ((Below.refl w.heap.size w).alloc (Nat.le_refl _) (.cells (pc p).toArray 54)) hbk hc j v hv
    rw [e0] at h1
    exact h1
  have hld := ld_point_at _ ad m' hmp hc'
  have hS0 : StB w p (w.alloc (.cells (pc p).toArray 54)) := StB.of hp ((Below.refl _ _).alloc (Nat.le_refl _) _) (heap_alloc_new w _)
  have hS1 : StF w p ad m'.c.p (w.alloc (.cells (pc p).toArray 54)).drew := ⟨hS0.drew hp, hld⟩
  have C := Lib.hid (fun w' => order_any m'.c.p p w' hmp hp)
  have CEL := Lib.hid (And.intro hc' hbk)
  generalize orderF m'.c.p p = r at *
  have H0 := Lib.hid hg
  clear hg hm hk hm' hok hc hc' hld hS0 H0
  show Calls _ _ #[.slice (some ad) n c, _] _ _
  go_enter Try.func104, Try.ntmps104
  go_wp2_with (fail)
  go_region_held3 (fun w' => StF w p ad m'.c.p w') (first | exact hS2 | exact hS1)
    (first | (go_at_call 105; (with_reducible refine (C.out _).mono ?_); rintro e w2 ⟨rfl, hb2⟩; have hS2 : StF w p ad m'.c.p w2 := ⟨hS1.1.below hp hb2, ld_point_at w2 ad m' hmp (fun j v hv => by
      rw [← CEL.out.1 j v hv]; exact World.cell?_of_block (hb2.block _ (by rw [block_add]; have := hS1.1.1.size; have := CEL.out.2; omega)))⟩))
  rename_i hHeldX
  clear hHeldX
  have Z := Lib.hid hS2.1
  clear hS2 hb2 hS1 C
  go_wp2_with (fail)
  go_ret
  exact ⟨rfl, Z.out.1⟩

/-- .. and one page that is read -/
abbrev StG (w : World) (p : Pt) (a : Addr) (v : Value) (w' : World) : Prop := StB w p w' ∧ w'.cell? a = some v

set_option maxRecDepth 20000 in
set_option maxHeartbeats 1000000 in
theorem searchP_any (B : Option Addr) (n c : Nat) (gs : List Pg) (p : Pt) (w : World) (hb : ArgT w B n c gs) (hp : p.ok) (hn : n ≤ 1000000000) (hup : Up (gs.map Pg.key)) :
    Calls Try.prog 103 #[.slice B n c, .agg (pc p).toArray, .func (Fn.func 104) #[] #[]] w fun e w' =>
      ∃ i : Nat, e = .returned (.tuple #[.int .i64 i, .bool (decide ((gs.map Pg.key)[i]? = some p))]) ∧ Stands (gs.map Pg.key) p i ∧ Below w.heap.size w w' := by
  have hlen := hb.len
  have hS0 : StB w p (w.alloc (.cells (pc p).toArray 54)) := StB.of hp ((Below.refl _ _).alloc (Nat.le_refl _) _) (heap_alloc_new w _)
  have ML := Lib.hid (And.intro hlen (And.intro hb hup))
  have hcap := hb.cap
  have hmax := hb.max
  clear hlen hb hup
  go_enter Try.func103, Try.ntmps103
  go_wp2_with (fail)
  go_loopw [9, 10] (fun x y wr => ∃ i j : Nat, i ≤ j ∧ j ≤ n ∧ x = .int .i64 i ∧ y = .int .i64 j ∧ (∀ k a, k < i → (gs.map Pg.key)[k]? = some a → lessF a p = true) ∧ (∀ k a, j ≤ k → (gs.map Pg.key)[k]? = some a → lessF a p = false) ∧ StB w p wr) (fun x y _ => (intOf y).toNat - (intOf x).toNat)
  case atStart =>
    refine ⟨0, n, Nat.zero_le _, Nat.le_refl _, rfl, rfl, fun k a h => by omega, fun k a h h2 => ?_, hS0⟩
    have := (List.getElem?_eq_some_iff.1 h2).1
    rw [List.length_map, ML.out.1] at this
    omega
  case round =>
    clear hS0
    obtain ⟨i, j, hij, hjn, rfl, rfl, hlo, hhi, hS⟩ := hrel
    have R := Lib.hid (And.intro hlo hhi)
    clear hlo hhi
    by_cases hlt : i < j
    · obtain ⟨h, hh⟩ : ∃ h, h = (i + j) / 2 := ⟨_, rfl⟩
      have h1 : i ≤ h := by omega
      have h2 : h < j := by omega
      obtain ⟨ad, g, rfl, hm, hok, hbk, hc⟩ := (ML.out.2.1.below hS.1).at_ (show h < n by omega)
      obtain ⟨m, hm0, hkey, hmp⟩ := hok.first
      have hS1 := hS.drew hp
      have C := Lib.hid (fun w' (hb' : Below wr.drew.heap.size wr.drew w') => find1_any g p w' ((hok.below ((Below.refl _ _).drew)).below hb') hp)
      rw [hkey] at C
      have on := orderF_neg m.c.p p
      have hmk : (gs.map Pg.key)[h]? = some m.c.p := by rw [List.getElem?_map, hm, ← hkey]; rfl
      have X := Lib.hid (And.intro hmk hok)
      generalize orderF m.c.p p = r at *
      have hhI : ((i : Int) + (j : Int)) / 2 = (h : Int) := by omega
      have i1 : (0 : Int) ≤ (h : Int) := by omega
      have i2 : (h : Int) < (n : Int) := by omega
      have wh : IntKind.i64.wrap ((h : Int) + 1) = ((h + 1 : Nat) : Int) := by rw [wrap_i64s (by omega)]; omega
      have CEL := Lib.hid (And.intro hc hmp)
      have hS1 : StG w p (ad.add h) (.slice g.A g.n g.c) wr.drew := ⟨hS1, hc⟩
      clear hc hm hok hS hmk hh
      cases hq : lessF m.c.p p with
      | true =>
        rw [hq] at on
        have Q := Lib.hid hq
        clear hq
        go_wp2_with (fail)
        clear hhI
        go_region_held3 (fun w' => StG w p (ad.add h) (.slice g.A g.n g.c) w') (first | exact hS2 | exact hS1)
          (first | (go_at_call 104; (with_reducible refine (C.out _ (Below.refl _ _)).mono ?_); rintro e w2 ⟨rfl, hb2⟩; have hS2 : StG w p _ (.slice g.A g.n g.c) w2 := ⟨hS1.1.below hp hb2, by rw [← CEL.out.1]; exact World.cell?_of_block (hb2.block _ (by rw [block_add]; exact hbk))⟩))
        rename_i hHeldX
        clear hHeldX
        have Z := Lib.hid hS2.1
        clear hS2 hb2 hS1 C
        go_wp2_with (fail)
        go_roundw
        case rel =>
          refine ⟨h + 1, j, by omega, hjn, by go_num, rfl, fun k a hk ha => ?_, R.out.2, Z.out⟩
          by_cases hkh : k = h
          · subst hkh
            rw [X.out.1] at ha
            rw [← Option.some.inj ha]
            exact Q.out
          · exact lessF_trans (ML.out.2.2 k h a m.c.p (by omega) ha X.out.1) Q.out
        case measure => simp [intOf]; omega
      | false =>
        rw [hq] at on
        have Q := Lib.hid hq
        clear hq
        go_wp2_with (fail)
        clear hhI
        go_region_held3 (fun w' => StG w p (ad.add h) (.slice g.A g.n g.c) w') (first | exact hS2 | exact hS1)
          (first | (go_at_call 104; (with_reducible refine (C.out _ (Below.refl _ _)).mono ?_); rintro e w2 ⟨rfl, hb2⟩; have hS2 : StG w p _ (.slice g.A g.n g.c) w2 := ⟨hS1.1.below hp hb2, by rw [← CEL.out.1]; exact World.cell?_of_block (hb2.block _ (by rw [block_add]; exact hbk))⟩))
        rename_i hHeldX
        clear hHeldX
        have Z := Lib.hid hS2.1
        clear hS2 hb2 hS1 C
        go_wp2_with (fail)
        go_roundw
        case rel =>
          refine ⟨i, h, by omega, by omega, rfl, by go_num, R.out.1, fun k a hk ha => ?_, Z.out⟩
          by_cases hkh : k = h
          · subst hkh
            rw [X.out.1] at ha
            rw [← Option.some.inj ha]
            exact Q.out
          · have h3 := ML.out.2.2 h k m.c.p a (by omega) X.out.1 ha
            cases h4 : lessF a p with
            | false => rfl
            | true => have := lessF_trans h3 h4; rw [Q.out] at this; cases this
        case measure => simp [intOf]; omega
    · obtain rfl : i = j := by omega
      by_cases hin : i < n
      · obtain ⟨ad, g, rfl, hm, hok, hbk, hc⟩ := (ML.out.2.1.below hS.1).at_ hin
        obtain ⟨m, hm0, hkey, hmp⟩ := hok.first
        have hS1 := hS.drew hp
        have C := Lib.hid (fun w' (hb' : Below wr.drew.heap.size wr.drew w') => find1_any g p w' ((hok.below ((Below.refl _ _).drew)).below hb') hp)
        rw [hkey] at C
        have on := orderF_zero hmp hp
        have hmk : (gs.map Pg.key)[i]? = some m.c.p := by rw [List.getElem?_map, hm, ← hkey]; rfl
        have X := Lib.hid (And.intro hmk hok)
        generalize orderF m.c.p p = r at *
        have i1 : (0 : Int) ≤ (i : Int) := by omega
        have i2 : (i : Int) < (n : Int) := by omega
        have d1 : decide ((i : Int) < (n : Int)) = true := decide_eq_true i2
        have hdec : decide ((gs.map Pg.key)[i]? = some p) = decide (m.c.p = p) := by rw [hmk]; simp
        have D := Lib.hid hdec
        generalize decide (m.c.p = p) = q at *
        have CEL := Lib.hid (And.intro hc hmp)
        have hS1 : StG w p (ad.add i) (.slice g.A g.n g.c) wr.drew := ⟨hS1, hc⟩
        clear hc hm hok hS hmk hdec
        go_wp2_with (fail)
        go_region_held3 (fun w' => StG w p (ad.add i) (.slice g.A g.n g.c) w') (first | exact hS2 | exact hS1)
          (first | (go_at_call 104; (with_reducible refine (C.out _ (Below.refl _ _)).mono ?_); rintro e w2 ⟨rfl, hb2⟩; have hS2 : StG w p _ (.slice g.A g.n g.c) w2 := ⟨hS1.1.below hp hb2, by rw [← CEL.out.1]; exact World.cell?_of_block (hb2.block _ (by rw [block_add]; exact hbk))⟩))
        rename_i hHeldX
        clear hHeldX
        have Z := Lib.hid hS2.1
        clear hS2 hb2 hS1 C
        go_wp2_with (fail)
        go_ret2
        exact ⟨i, by rw [D.out]; rfl, ⟨by rw [List.length_map, ML.out.1]; omega, R.out.1, R.out.2⟩, Z.out.1⟩
      · obtain rfl : n = i := by omega
        have d1 : decide ((n : Int) < (n : Int)) = false := decide_eq_false (by omega)
        have hnone : (gs.map Pg.key)[n]? = none := List.getElem?_eq_none (by rw [List.length_map, ML.out.1]; omega)
        have D := Lib.hid hnone
        have Z := Lib.hid hS
        clear hS hnone
        go_wp2_with (fail)
        go_quiet (fail)
        have bl := belN Z.out.1 ‹Nat›
        go_wp2_with (fail)
        go_ret2
        exact ⟨n, by rw [D.out]; rfl, ⟨by rw [List.length_map, ML.out.1]; exact Nat.le_refl _, R.out.1, R.out.2⟩, bl⟩
end Go.Proofs.Ytofclanljhfkiaa
/- A table in memory; whether it is off; a new one; where a point is found. -/
namespace Go.Proofs.Ytofclanljhfkiaa
open Go.RowKit Go.Proofs En Co
set_option linter.unusedVariables false
set_option linter.unusedSimpArgs false
set_option maxRecDepth 20000
attribute [local go_sem ↓] ld_point_eq ld_coin_eq ld_hash_eq st_point_eq st_coin_eq bd_point_eq bd_coin_eq eq_point_eq ne_point_eq al_coin_eq al_point_eq
attribute [local go_sem] ld_point_run ld_coin_run ld_hash_run st_point_run st_coin_run bd_point_zero bd_coin_zero bd_point_of bd_coin_of hash_at rowIs_34 rowIs_37 rowIs_both hasAt_both cellsAt_both eq_point_run ne_point_run guard_pt al_coin_run al_point_run al_coin_row al_point_row nil_bytes nil_coins

set_option maxRecDepth 20000 in
theorem off_nil (w : World) : Calls Try.prog 56 #[.pointer none] w fun e w' => e = .returned (.bool true) ∧ w' = w := by
  go_enter Try.func56, Try.ntmps56
  go_wp2_with (fail)
  go_ret
  exact ⟨rfl, rfl⟩
set_option maxRecDepth 20000 in
theorem off_at (w : World) (g : Nat) (b : Bool) (u v : Value) (h : w.heap[g]? = some (.cells #[.bool b, u, v] 29 (0, 0))) :
    Calls Try.prog 56 #[.pointer (some ⟨g, 0, none⟩)] w fun e w' => e = .returned (.bool (!b)) ∧ w' = w := by
  have h0 : w.cell? ⟨g, 0, none⟩ = some (.bool b) := (row_cells h 0).1
  go_enter Try.func56, Try.ntmps56
  go_wp2_with (fail)
  go_ret
  exact ⟨rfl, rfl⟩
set_option maxRecDepth 20000 in
theorem new_any (w : World) : Calls Try.prog 26 #[] w fun e w' => e = .returned (.pointer (some ⟨w.heap.size, 0, none⟩)) ∧ w' = w.alloc (.cells #[.bool true, .slice none 0 0, .int .i64 0] 29) := by
  go_enter Try.func26, Try.ntmps26
  go_wp2_with (fail)
  go_ret
  exact ⟨rfl, rfl⟩

/-- all the coins of pages -/
def allC (gs : List Pg) : List Cm := gs.flatMap Pg.hs
/-- the points of a page, of all pages -/
def Pg.pts (g : Pg) : List Pt := (cns g.hs).map Cn.p
def allP (gs : List Pg) : List Pt := gs.flatMap Pg.pts
/-- each is less than those behind it -/
def Rise (ks : List Pt) : Prop := ks.Pairwise (fun a b => lessF a b = true)
theorem Rise.up {ks : List Pt} (h : Rise ks) : Up ks := fun i j a b hij hi hj => by
  obtain ⟨h1, e1⟩ := List.getElem?_eq_some_iff.1 hi
  obtain ⟨h2, e2⟩ := List.getElem?_eq_some_iff.1 hj
  have := List.pairwise_iff_getElem.1 h i j h1 h2 hij
  rwa [e1, e2] at this
theorem Rise.page {gs : List Pg} (h : Rise (allP gs)) {x : Pg} (hx : x ∈ gs) : Rise x.pts := (List.pairwise_flatMap.1 h).1 x hx
theorem key_mem {x : Pg} (h : 0 < x.hs.length) : x.key ∈ x.pts := by
  unfold Pg.key Pg.pts cns
  cases hh : x.hs with
  | nil => rw [hh] at h; simp at h
  | cons m r => simp
theorem Rise.keys {gs : List Pg} (h : Rise (allP gs)) (hn : ∀ x ∈ gs, 0 < x.hs.length) : Rise (gs.map Pg.key) := by
  have h2 := (List.pairwise_flatMap.1 h).2
  unfold Rise
  rw [List.pairwise_map]
  exact List.Pairwise.imp_of_mem (fun {a b} ha hb hab => hab _ (key_mem (hn a ha)) _ (key_mem (hn b hb))) h2
/-- a table: its struct, its row of pages, its pages, all from 'base' on -/
structure Tab (w : World) (base g : Nat) (P : Option Addr) (np cp : Nat) (gs : List Pg) : Prop where
  low : base ≤ g
  row : w.heap[g]? = some (.cells #[.bool true, .slice P np cp, .int .i64 (allC gs).length] 29 (0, 0))
  pages : Own w base 22 1 (fun _ => True) P np cp (gs.map Pg.cell)
  own : ∀ x ∈ gs, OwnP w base x.A x.n x.c x.hs ∧ 0 < x.n ∧ x.n ≤ 1000000
  up : Rise (allP gs)
  most : (allC gs).length ≤ 2000
section
variable {w w' : World} {base g : Nat} {P : Option Addr} {np cp : Nat} {gs : List Pg}
theorem Tab.len (h : Tab w base g P np cp gs) : gs.length = np := by have := h.pages.1; simpa using this
theorem Tab.arg (h : Tab w base g P np cp gs) : ArgT w P np cp gs :=
  ⟨h.pages.rd, fun x hx => ⟨(h.own x hx).1.arg, (h.own x hx).2⟩, (Own.len_cap h.pages).1, (Own.len_cap h.pages).2⟩
theorem Tab.below (h : Tab w base g P np cp gs) (hb : Below w.heap.size w w') : Tab w' base g P np cp gs :=
  ⟨h.low, kept h.row hb, h.pages.below hb, fun x hx => ⟨(h.own x hx).1.below hb, (h.own x hx).2⟩, h.up, h.most⟩
theorem Tab.mono {base' : Nat} (h : Tab w base g P np cp gs) (hb : base' ≤ base) : Tab w base' g P np cp gs :=
  ⟨Nat.le_trans hb h.low, h.row, Own.mono h.pages hb, fun x hx => ⟨(h.own x hx).1.mono hb, (h.own x hx).2⟩, h.up, h.most⟩
theorem Tab.new (w : World) : Tab (w.alloc (.cells #[.bool true, .slice none 0 0, .int .i64 0] 29)) w.heap.size w.heap.size none 0 0 [] :=
  ⟨Nat.le_refl _, heap_alloc_new w _, Own.nil _ _ _ _ _, fun _ h => (by cases h), List.Pairwise.nil, Nat.zero_le _⟩
theorem length_pages {gs : List Pg} (h : ∀ x ∈ gs, 0 < x.n ∧ x.hs.length = x.n) : gs.length ≤ (allC gs).length := by
  induction gs with
  | nil => exact Nat.zero_le _
  | cons x r ih =>
    have h1 := h x (List.mem_cons_self ..)
    have h2 := ih (fun y hy => h y (List.mem_cons_of_mem _ hy))
    unfold allC at *
    rw [List.flatMap_cons, List.length_append, List.length_cons]
    omega
theorem Tab.np_le (h : Tab w base g P np cp gs) : np ≤ 2000 := by
  have h1 := length_pages (gs := gs) fun x hx => ⟨(h.own x hx).2.1, (h.own x hx).1.len⟩
  have h2 := h.len
  have h3 := h.most
  omega
end
set_option maxRecDepth 20000 in
theorem len_any {w : World} {base g : Nat} {P : Option Addr} {np cp : Nat} {gs : List Pg} (h : Tab w base g P np cp gs) :
    Calls Try.prog 31 #[.pointer (some ⟨g, 0, none⟩)] w fun e w' => e = .returned (.int .i64 (allC gs).length) ∧ w' = w := by
  have C := Lib.hid (off_at w g true _ _ h.row)
  have h2 : w.cell? ⟨g, 2, none⟩ = some (.int .i64 (allC gs).length) := (row_cells h.row 2).1
  clear h
  go_enter Try.func31, Try.ntmps31
  go_wp2_with (fail)
  refine C.out.mono ?_
  rintro e w1 ⟨rfl, rfl⟩
  go_wp2_with (fail)
  go_ret
  exact ⟨rfl, rfl⟩
end Go.Proofs.Ytofclanljhfkiaa
