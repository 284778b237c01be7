/- Joined texts: TabX. -/
import Derived.Test.YtofclanljhfkiaaM13
import Derived.Deep.RegionHeld3
import Derived.Deep.RegionWith
/- A coin more: Put. -/
namespace Go.Proofs.Ytofclanljhfkiaa
open Go.RowKit Go.Proofs En Co
set_option linter.unusedVariables false
set_option linter.unusedSimpArgs false
set_option maxRecDepth 20000
attribute [local go_sem ↓] ld_point_eq ld_coin_eq ld_hash_eq st_point_eq st_coin_eq bd_point_eq bd_coin_eq eq_point_eq ne_point_eq al_coin_eq al_point_eq bs_coin_eq
attribute [local go_sem] ld_point_run ld_coin_run ld_hash_run st_point_run st_coin_run bd_point_zero bd_coin_zero bd_point_of bd_coin_of hash_at rowIs_34 rowIs_37 rowIs_both hasAt_both cellsAt_both eq_point_run ne_point_run guard_pt al_coin_run al_point_run al_coin_row al_point_row nil_bytes nil_coins bs_coin_run

theorem Found.page {gs : List Pg} {p : Pt} {pg at_ : Nat} {is : Bool} (h : Found gs p pg at_ is) (hn : gs ≠ []) : ∃ x, gs[pg]? = some x ∧ at_ ≤ x.hs.length := by
  rcases h with ⟨h, _⟩ | ⟨x, hx, hs, _⟩
  · exact absurd h hn
  · refine ⟨x, hx, ?_⟩
    have := hs.1
    unfold Pg.pts at this
    rwa [List.length_map, cns_length] at this
/-- what the walk reads while a coin is put into a page -/
abbrev StQ (w6 : World) (g b : Nat) (m : Cm) (v : Value) (a : Addr) (u : Value) (w' : World) : Prop :=
  Below w6.heap.size w6 w' ∧ w'.cell? ⟨g, 1, none⟩ = some v ∧ w'.cell? a = some u ∧ (hasAt w' b 0 37 ∧ cellsAt w' b 0 37 = (cc m).toArray)
theorem StQ.of {w6 w' : World} {g b : Nat} {m : Cm} {v : Value} {a : Addr} {u : Value} (hb : Below w6.heap.size w6 w') (h1 : w6.cell? ⟨g, 1, none⟩ = some v) (h2 : w6.cell? a = some u) (hp : m.c.p.ok) (h3 : w6.heap[b]? = some (.cells (cc m).toArray 57 (0, 0))) : StQ w6 g b m v a u w' :=
  ⟨hb, cell_keep h1 hb, cell_keep h2 hb, (coin_has hp (kept h3 hb)).1⟩
abbrev StR (w10 : World) (g : Nat) (v : Value) (w' : World) : Prop := Below w10.heap.size w10 w' ∧ w'.cell? ⟨g, 1, none⟩ = some v ∧ w'.frozen? ⟨g, 1, none⟩ = false
theorem StR.of {w10 w' : World} {g : Nat} {u v z : Value} (hb : Below w10.heap.size w10 w') (hr : w10.heap[g]? = some (.cells ((#[u, v, z] : Array Value)) 29 (0, 0))) : StR w10 g v w' :=
  ⟨hb, (row_cells (kept hr hb) 1).1, (row_cells (kept hr hb) 1).2⟩
/-- what a world holds from the coin's box on: the box, the table's row -/
structure StW (g b : Nat) (m : Cm) (row : Obj) (w w' : World) : Prop where
  bel : Below w.heap.size w w'
  box : w'.heap[b]? = some (.cells (cc m).toArray 57 (0, 0))
  row : w'.heap[g]? = some row
theorem StW.below {g b : Nat} {m : Cm} {row : Obj} {w w' w2 : World} (h : StW g b m row w w') (hb : Below w'.heap.size w' w2) : StW g b m row w w2 := ⟨bThen h.bel hb, kept h.box hb, kept h.row hb⟩

/-- the first coin of a table -/
theorem Tab.first {w w6 : World} {base g cp n : Nat} {P : Option Addr} {m : Cm} (h : Tab w base g P 0 cp []) (ho : Only w w6 g P) (hr : w6.heap[g]? = some (.cells ((#[.bool true, .slice P 0 cp, .int .i64 ((allC ([] : List Pg)).length : Nat)] : Array Value).setIfInBounds 2 (.int .i64 (((allC ([] : List Pg)).length : Int) + 1))) 29 (0, 0)))
    (hc : m.c.ok) (hl : OwnB w6 base m.A m.c.l.length m.k m.c.l) (hlen : m.c.l.length ≤ 140737488355328) (hs : w6.heap.size = n) :
    Tab (((w6.alloc (.cells (cc m).toArray 57)).alloc (.cells #[.slice (some ⟨n, 0, none⟩) 1 1] 22)).setCell ⟨g, 1, none⟩ (.slice (some ⟨n + 1, 0, none⟩) 1 1)) base g (some ⟨n + 1, 0, none⟩) 1 1 [⟨some ⟨n, 0, none⟩, 1, 1, [m]⟩] ∧
      Only w (((w6.alloc (.cells (cc m).toArray 57)).alloc (.cells #[.slice (some ⟨n, 0, none⟩) 1 1] 22)).setCell ⟨g, 1, none⟩ (.slice (some ⟨n + 1, 0, none⟩) 1 1)) g P := by
  subst hs
  have hgl := (Array.getElem?_eq_some_iff.1 h.row).1
  have hsz := ho.size
  have b7 : Below w6.heap.size w6 (w6.alloc (.cells (cc m).toArray 57)) := (Below.refl _ _).alloc (Nat.le_refl _) _
  have hz7 : (w6.alloc (.cells (cc m).toArray 57)).heap.size = w6.heap.size + 1 := by simp
  have b8 : Below w6.heap.size w6 ((w6.alloc (.cells (cc m).toArray 57)).alloc (.cells #[.slice (some ⟨w6.heap.size, 0, none⟩) 1 1] 22)) := belA b7 _ (Nat.le_refl _)
  have a1 := (Own.lit (base := w6.heap.size) (e := 57) (size := 37) (G := fun _ => True) w6 (cc m).toArray 1 (Nat.le_refl _) (by decide) (by simpa using cc_length hc.p) (fun _ _ => trivial))
  have a2 := Own.setOther (a1.alloc (.cells #[.slice (some ⟨w6.heap.size, 0, none⟩) 1 1] 22)) (p := ⟨g, 1, none⟩) (fun e => by have := (Own.lt a1 _ e).1; simp only at this; omega) (.slice (some ⟨w6.heap.size + 1, 0, none⟩) 1 1)
  have q1 := (Own.lit (base := w6.heap.size) (e := 22) (size := 1) (G := fun _ => True) (w6.alloc (.cells (cc m).toArray 57)) #[.slice (some ⟨w6.heap.size, 0, none⟩) 1 1] 1 (by omega) (by decide) rfl (fun _ _ => trivial))
  rw [hz7] at q1
  have q2 := Own.setOther q1 (p := ⟨g, 1, none⟩) (fun e => by have := (Own.lt q1 _ e).1; simp only at this; omega) (.slice (some ⟨w6.heap.size + 1, 0, none⟩) 1 1)
  have oF : Only w (((w6.alloc (.cells (cc m).toArray 57)).alloc (.cells #[.slice (some ⟨w6.heap.size, 0, none⟩) 1 1] 22)).setCell ⟨g, 1, none⟩ (.slice (some ⟨w6.heap.size + 1, 0, none⟩) 1 1)) g P := (ho.then b8).setCell (.inl rfl) _
  have hlow := h.low
  refine ⟨Tab.turn h oF ?_ (Own.mono q2 (by omega)) (fun y hy => ?_) ?_ (by show 1 ≤ 2000; omega), oF⟩
  · exact heap_setCell_same _ g 1 _ _ _ (kept hr b8)
  · rcases List.mem_singleton.1 hy with rfl
    refine .inr ⟨⟨?_, fun z hz => ?_, rfl⟩, by show 0 < 1; omega, by show 1 ≤ 1000000; omega⟩
    · have e : pcs [m] = (cc m).toArray.toList := by rw [pcs_cons, pcs_nil, List.append_nil]
      show Own _ base _ 37 _ _ 1 1 (pcs [m])
      rw [e]
      exact Own.mono a2 (by omega)
    · rcases List.mem_singleton.1 hz with rfl
      refine ⟨hc, Own.setOther (OwnN.below hl b8) (p := ⟨g, 1, none⟩) (fun e => ?_) _, hlen⟩
      exact Own.ne_block hl hr (by decide) e
  · exact List.pairwise_singleton ..

/-- a coin put where its point is found: all still rise -/
theorem Found.rise {gs gs' : List Pg} {pg at_ : Nat} {x : Pg} {m : Cm} (hf : Found gs m.c.p pg at_ false) (h : Rise (allP gs)) (hx : gs[pg]? = some x) (hn : ∀ y ∈ gs, 0 < y.hs.length) (hok : ∀ a ∈ allP gs, a.ok) (hp : m.c.p.ok)
    (he : allC gs' = allC (gs.take pg) ++ ((x.hs.take at_ ++ m :: x.hs.drop at_) ++ allC (gs.drop (pg + 1)))) : Rise (allP gs') := by
  have e : allP gs' = (allP (gs.take pg) ++ x.pts.take at_) ++ m.c.p :: (x.pts.drop at_ ++ allP (gs.drop (pg + 1))) := by
    rw [allP_eq, he, allP_eq, allP_eq]
    unfold Pg.pts cns
    simp only [List.map_append, List.map_cons, List.map_take, List.map_drop, List.append_assoc, List.cons_append]
  have e2 : allP gs = (allP (gs.take pg) ++ x.pts.take at_) ++ (x.pts.drop at_ ++ allP (gs.drop (pg + 1))) := by
    rw [allP_eq, allC_split hx, allP_eq, allP_eq]
    unfold Pg.pts cns
    simp only [List.map_append, List.append_assoc]
    rw [← List.append_assoc (List.take _ _), List.take_append_drop]
  rw [e]
  rw [e2] at h
  have hb := hf.before (e2 ▸ h) hx hn
  have ha := hf.after (e2 ▸ h) hx hn hok hp
  exact h.insert hb ha
theorem Tab.pos {w : World} {base g np cp : Nat} {P : Option Addr} {gs : List Pg} (h : Tab w base g P np cp gs) : ∀ y ∈ gs, 0 < y.hs.length := fun y hy => by rw [(h.own y hy).1.len]; exact (h.own y hy).2.1
theorem Tab.ptok {w : World} {base g np cp : Nat} {P : Option Addr} {gs : List Pg} (h : Tab w base g P np cp gs) : ∀ a ∈ allP gs, a.ok := by
  intro a ha
  obtain ⟨y, hy, hay⟩ := List.mem_flatMap.1 ha
  unfold Pg.pts cns at hay
  rw [List.map_map] at hay
  obtain ⟨z, hz, rfl⟩ := List.mem_map.1 hay
  exact ((h.own y hy).1.ok z hz).1.p
theorem allC_put_len {gs gs' : List Pg} {pg at_ : Nat} {x : Pg} {m : Cm} (hx : gs[pg]? = some x) (he : allC gs' = allC (gs.take pg) ++ ((x.hs.take at_ ++ m :: x.hs.drop at_) ++ allC (gs.drop (pg + 1)))) : (allC gs').length = (allC gs).length + 1 := by
  rw [he, allC_split hx]
  simp only [List.length_append, List.length_cons, List.length_take, List.length_drop]
  omega
theorem inP_cns (hs : List Cm) (at_ : Nat) (m : Cm) : cns (hs.take at_ ++ m :: hs.drop at_) = inP (cns hs) at_ m.c := by
  unfold inP cns
  rw [List.map_append, List.map_cons, List.map_take, List.map_drop]
theorem inP_length {l : List Cn} {at_ : Nat} {c : Cn} : (inP l at_ c).length = l.length + 1 := by
  unfold inP
  simp only [List.length_append, List.length_cons, List.length_take, List.length_drop]
  omega
theorem putP_small {gs : List Pg} {pg at_ : Nat} {x : Pg} {m : Cm} (hx : gs[pg]? = some x) (h : x.hs.length + 1 ≤ 8) : putP (pgsOf gs) pg at_ m.c = (pgsOf gs).set pg (cns (x.hs.take at_ ++ m :: x.hs.drop at_)) := by
  have hpl := (List.getElem?_eq_some_iff.1 hx).1
  unfold putP
  rw [if_neg (by rw [pgsOf_length]; omega), pgsOf_get hx, if_pos (by rw [inP_length, cns_length]; exact h), inP_cns]
theorem putP_big {gs : List Pg} {pg at_ : Nat} {x : Pg} {m : Cm} (hx : gs[pg]? = some x) (h : 8 < x.hs.length + 1) (y1 y2 : Pg) (h1 : y1.hs = (x.hs.take at_ ++ m :: x.hs.drop at_).take 4) (h2 : y2.hs = (x.hs.take at_ ++ m :: x.hs.drop at_).drop 4) :
    putP (pgsOf gs) pg at_ m.c = pgsOf (gs.take pg ++ [y1, y2] ++ gs.drop (pg + 1)) := by
  have hpl := (List.getElem?_eq_some_iff.1 hx).1
  unfold putP
  rw [if_neg (by rw [pgsOf_length]; omega), pgsOf_get hx, if_neg (by rw [inP_length, cns_length]; omega), ← inP_cns]
  unfold pgsOf
  simp only [List.map_append, List.map_take, List.map_drop, List.map_cons, List.map_nil, h1, h2]
  unfold cns
  simp only [List.map_take, List.map_drop]
theorem put_own {w w' : World} {base g np cp b2 : Nat} {P A : Option Addr} {gs : List Pg} {x : Pg} {m : Cm} {ks : List Cm} {n d : Nat} (h : Tab w base g P np cp gs) (ho : Only w w' g P) (hx : x ∈ gs) (hc : m.c.ok) (hl : OwnB w' base m.A m.c.l.length m.k m.c.l) (hlen : m.c.l.length ≤ 140737488355328)
    (hr : Own w' b2 57 37 (fun _ => True) A n d (pcs ks)) (hb : base ≤ b2) (hk : ∀ z ∈ ks, z ∈ x.hs ∨ z = m) (hn : ks.length = n) : OwnP w' base A n d ks :=
  ⟨Own.mono hr hb, fun z hz => by
    rcases hk z hz with hz | rfl
    · exact ((h.own x hx).1.only ho h.kinds).ok z hz
    · exact ⟨hc, hl, hlen⟩, hn⟩
theorem mem_put {x : Pg} {m z : Cm} {at_ : Nat} (h : z ∈ x.hs.take at_ ++ m :: x.hs.drop at_) : z ∈ x.hs ∨ z = m := by
  rcases List.mem_append.1 h with h | h
  · exact .inl (List.mem_of_mem_take h)
  · rcases List.mem_cons.1 h with h | h
    · exact .inr h
    · exact .inl (List.mem_of_mem_drop h)
/-- a coin more in a page that has room -/
theorem Tab.more {w w' : World} {base g np cp pg at_ : Nat} {ad : Addr} {A : Option Addr} {d : Nat} {gs : List Pg} {x : Pg} {m : Cm} (h : Tab w base g (some ad) np cp gs) (ho : Only w w' g (some ad)) (hr : w'.heap[g]? = some (.cells ((#[.bool true, .slice (some ad) np cp, .int .i64 ((allC gs).length : Nat)] : Array Value).setIfInBounds 2 (.int .i64 (((allC gs).length : Int) + 1))) 29 (0, 0)))
    (hp : Own w' base 22 1 (fun _ => True) (some ad) np cp (gs.map Pg.cell)) (ha : Own w' w.heap.size 57 37 (fun _ => True) A (x.n + 1) d (pcs (x.hs.take at_ ++ m :: x.hs.drop at_)))
    (hx : gs[pg]? = some x) (hf : Found gs m.c.p pg at_ false) (hlim : (allC gs).length < 2000) (hc : m.c.ok) (hl : OwnB w' base m.A m.c.l.length m.k m.c.l) (hlen : m.c.l.length ≤ 140737488355328) (hn : x.hs.length = x.n) :
    Tab (w'.setCell (ad.add pg) (.slice A (x.n + 1) d)) base g (some ad) np cp (gs.set pg ⟨A, x.n + 1, d, x.hs.take at_ ++ m :: x.hs.drop at_⟩) ∧ Only w (w'.setCell (ad.add pg) (.slice A (x.n + 1) d)) g (some ad) ∧ allC (gs.set pg ⟨A, x.n + 1, d, x.hs.take at_ ++ m :: x.hs.drop at_⟩) = allC (gs.take pg) ++ ((x.hs.take at_ ++ m :: x.hs.drop at_) ++ allC (gs.drop (pg + 1))) := by
  have hgl := (Array.getElem?_eq_some_iff.1 h.row).1
  have hadl : ad.block < w.heap.size := (Own.lt h.pages _ rfl).2
  have hPg : ad.block ≠ g := fun e => Own.ne_block h.pages h.row (by decide) (by rw [← e]; rfl)
  have oF := ho.setCell (a := ad.add pg) (.inr (by rw [block_add]; rfl)) (.slice A (x.n + 1) d)
  have hall := allC_set hx ⟨A, x.n + 1, d, x.hs.take at_ ++ m :: x.hs.drop at_⟩
  have hlen' := allC_put_len hx hall
  have hlow := h.low
  have hks : (x.hs.take at_ ++ m :: x.hs.drop at_).length = x.n + 1 := by
    simp only [List.length_append, List.length_cons, List.length_take, List.length_drop]
    omega
  refine ⟨Tab.turn h oF ?_ ?_ (fun y hy => ?_) (hf.rise h.up hx h.pos h.ptok hc.p hall) (by omega), oF, hall⟩
  · rw [Below.heap_setCell _ _ _ _ (by rw [block_add]; exact fun e => hPg e.symm), hr, hlen']
    rfl
  · rw [List.map_set]
    rcases hp.2 with ⟨h, _⟩ | ⟨kb, cur, h, _⟩
    · cases h
    · cases h
      rw [add_new]
      exact Own.set hp pg _ trivial
  · rcases List.mem_or_eq_of_mem_set hy with hy | rfl
    · exact .inl hy
    · have hx0 := (h.own x (List.mem_of_getElem? hx)).2
      have hxt : x.hs.length ≤ (allC gs).length := by rw [allC_split hx, List.length_append, List.length_append]; omega
      refine .inr ⟨put_own h oF (List.mem_of_getElem? hx) hc (Own.setOther hl (fun e => ?_) _) hlen (Own.setOther ha (fun e => ?_) _) (show base ≤ w.heap.size by omega) (fun z hz => mem_put hz) hks, by show 0 < x.n + 1; omega, by show x.n + 1 ≤ 1000000; omega⟩
      · rw [block_add] at e
        obtain ⟨ys, hy⟩ := h.kinds.2 ad.block rfl
        rcases hp.2 with ⟨h, _⟩ | ⟨kb, cur, h, _, h4, _⟩
        · cases h
        · cases h
          exact Own.ne_block hl h4 (by decide) e
      · rw [block_add] at e
        have := (Own.lt ha _ e).1
        omega
/-- a coin more in a page that is cut into two -/
theorem Tab.split {w w' : World} {base g np cp np' cp' pg at_ : Nat} {P P' A1 A2 : Option Addr} {d1 d2 : Nat} {gs : List Pg} {x : Pg} {m : Cm} (h : Tab w base g P np cp gs) (ho : Only w w' g P) (hr : w'.heap[g]? = some (.cells ((#[.bool true, .slice P np cp, .int .i64 ((allC gs).length : Nat)] : Array Value).setIfInBounds 2 (.int .i64 (((allC gs).length : Int) + 1))) 29 (0, 0)))
    (hp : Own w' w.heap.size 22 1 (fun _ => True) P' np' cp' ((gs.map Pg.cell).take pg ++ [.slice A1 4 d1, .slice A2 (x.n + 1 - 4) d2] ++ (gs.map Pg.cell).drop (pg + 1)))
    (ha1 : Own w' w.heap.size 57 37 (fun _ => True) A1 4 d1 (pcs ((x.hs.take at_ ++ m :: x.hs.drop at_).take 4))) (ha2 : Own w' w.heap.size 57 37 (fun _ => True) A2 (x.n + 1 - 4) d2 (pcs ((x.hs.take at_ ++ m :: x.hs.drop at_).drop 4)))
    (hx : gs[pg]? = some x) (hf : Found gs m.c.p pg at_ false) (hlim : (allC gs).length < 2000) (hc : m.c.ok) (hl : OwnB w' base m.A m.c.l.length m.k m.c.l) (hlen : m.c.l.length ≤ 140737488355328) (hn : x.hs.length = x.n) (h8 : 8 < x.n + 1) :
    Tab (w'.setCell ⟨g, 1, none⟩ (.slice P' np' cp')) base g P' np' cp' (gs.take pg ++ [⟨A1, 4, d1, (x.hs.take at_ ++ m :: x.hs.drop at_).take 4⟩, ⟨A2, x.n + 1 - 4, d2, (x.hs.take at_ ++ m :: x.hs.drop at_).drop 4⟩] ++ gs.drop (pg + 1)) ∧ Only w (w'.setCell ⟨g, 1, none⟩ (.slice P' np' cp')) g P ∧ allC (gs.take pg ++ [⟨A1, 4, d1, (x.hs.take at_ ++ m :: x.hs.drop at_).take 4⟩, ⟨A2, x.n + 1 - 4, d2, (x.hs.take at_ ++ m :: x.hs.drop at_).drop 4⟩] ++ gs.drop (pg + 1)) = allC (gs.take pg) ++ ((x.hs.take at_ ++ m :: x.hs.drop at_) ++ allC (gs.drop (pg + 1))) := by
  have hgl := (Array.getElem?_eq_some_iff.1 h.row).1
  have oF := ho.setCell (a := ⟨g, 1, none⟩) (.inl rfl) (.slice P' np' cp')
  have hall : allC (gs.take pg ++ [⟨A1, 4, d1, (x.hs.take at_ ++ m :: x.hs.drop at_).take 4⟩, ⟨A2, x.n + 1 - 4, d2, (x.hs.take at_ ++ m :: x.hs.drop at_).drop 4⟩] ++ gs.drop (pg + 1)) = allC (gs.take pg) ++ ((x.hs.take at_ ++ m :: x.hs.drop at_) ++ allC (gs.drop (pg + 1))) := by
    rw [allC_app, allC_app, allC_cons, allC_cons]
    show allC (gs.take pg) ++ (((x.hs.take at_ ++ m :: x.hs.drop at_).take 4) ++ (((x.hs.take at_ ++ m :: x.hs.drop at_).drop 4) ++ [])) ++ allC (gs.drop (pg + 1)) = _
    rw [List.append_nil, List.take_append_drop, List.append_assoc]
  have hlen' := allC_put_len hx hall
  have hlow := h.low
  have hks : (x.hs.take at_ ++ m :: x.hs.drop at_).length = x.n + 1 := by
    simp only [List.length_append, List.length_cons, List.length_take, List.length_drop]
    omega
  have hnb : ∀ {e : TypeId} {A : Option Addr} {n c size : Nat} {cs : List Value}, Own w' w.heap.size e size (fun _ => True) A n c cs → Own (w'.setCell ⟨g, 1, none⟩ (.slice P' np' cp')) w.heap.size e size (fun _ => True) A n c cs := fun hq => Own.setOther hq (fun e => by have := (Own.lt hq _ e).1; simp only at this; omega) _
  have hlk : OwnB (w'.setCell ⟨g, 1, none⟩ (.slice P' np' cp')) base m.A m.c.l.length m.k m.c.l := Own.setOther hl (fun e => Own.ne_block hl hr (by decide) e) _
  have hx0 := (h.own x (List.mem_of_getElem? hx)).2
  have hxt : x.hs.length ≤ (allC gs).length := by rw [allC_split hx, List.length_append, List.length_append]; omega
  refine ⟨Tab.turn h oF ?_ ?_ (fun y hy => ?_) (hf.rise h.up hx h.pos h.ptok hc.p hall) (by omega), oF, hall⟩
  · rw [heap_setCell_same _ g 1 _ _ _ hr, hlen']
    rfl
  · have e : (gs.take pg ++ ([⟨A1, 4, d1, (x.hs.take at_ ++ m :: x.hs.drop at_).take 4⟩, ⟨A2, x.n + 1 - 4, d2, (x.hs.take at_ ++ m :: x.hs.drop at_).drop 4⟩] : List Pg) ++ gs.drop (pg + 1)).map Pg.cell = (gs.map Pg.cell).take pg ++ [.slice A1 4 d1, .slice A2 (x.n + 1 - 4) d2] ++ (gs.map Pg.cell).drop (pg + 1) := by
      simp only [List.map_append, List.map_take, List.map_drop, List.map_cons, List.map_nil, Pg.cell]
    rw [e]
    exact Own.mono (hnb hp) (by omega)
  · rcases List.mem_append.1 hy with hy | hy
    · rcases List.mem_append.1 hy with hy | hy
      · exact .inl (List.mem_of_mem_take hy)
      · rcases List.mem_cons.1 hy with rfl | hy
        · exact .inr ⟨put_own h oF (List.mem_of_getElem? hx) hc hlk hlen (hnb ha1) (show base ≤ w.heap.size by omega) (fun z hz => mem_put (List.mem_of_mem_take hz)) (by show ((x.hs.take at_ ++ m :: x.hs.drop at_).take 4).length = 4; rw [List.length_take, hks]; omega), by show 0 < 4; omega, by show 4 ≤ 1000000; omega⟩
        · rcases List.mem_singleton.1 hy with rfl
          exact .inr ⟨put_own h oF (List.mem_of_getElem? hx) hc hlk hlen (hnb ha2) (show base ≤ w.heap.size by omega) (fun z hz => mem_put (List.mem_of_mem_drop hz)) (by show ((x.hs.take at_ ++ m :: x.hs.drop at_).drop 4).length = _; rw [List.length_drop, hks]), by show 0 < x.n + 1 - 4; omega, by show x.n + 1 - 4 ≤ 1000000; omega⟩
    · exact .inl (List.mem_of_mem_drop hy)

/-- a coin's lock is an elder one's of the table, or new memory -/
def NewLock (w : World) (gs gs' : List Pg) : Prop := ∀ z ∈ allC gs', z ∈ allC gs ∨ ∀ k, blk z.A = some k → w.heap.size ≤ k
theorem NewLock.put {w : World} {gs gs' : List Pg} {pg at_ : Nat} {x : Pg} {m : Cm} (hx : gs[pg]? = some x) (he : allC gs' = allC (gs.take pg) ++ ((x.hs.take at_ ++ m :: x.hs.drop at_) ++ allC (gs.drop (pg + 1)))) (hm : ∀ k, blk m.A = some k → w.heap.size ≤ k) : NewLock w gs gs' := by
  intro z hz
  rw [he] at hz
  rw [allC_split hx]
  rcases List.mem_append.1 hz with hz | hz
  · exact .inl (List.mem_append_left _ hz)
  · rcases List.mem_append.1 hz with hz | hz
    · rcases mem_put hz with hz | rfl
      · exact .inl (List.mem_append_right _ (List.mem_append_left _ hz))
      · exact .inr hm
    · exact .inl (List.mem_append_right _ (List.mem_append_right _ hz))

def putEnd (w w' : World) (e : Ending) (base g : Nat) (P : Option Addr) (np cp : Nat) (gs : List Pg) (m : Cm) : Prop :=
  (mayO m.c.v m.c.l = false ∧ e = .returned (.int .i64 2) ∧ Below w.heap.size w w') ∨
  (mayO m.c.v m.c.l = true ∧ ∃ (pg at_ : Nat) (is : Bool), Found gs m.c.p pg at_ is ∧
    ((is = true ∧ e = .returned (.int .i64 7) ∧ Below w.heap.size w w') ∨
     (is = false ∧ 2000 ≤ (allC gs).length ∧ e = .returned (.int .i64 3) ∧ Below w.heap.size w w') ∨
     (is = false ∧ (allC gs).length < 2000 ∧ e = .returned (.int .i64 0) ∧ ∃ (P' : Option Addr) (np' cp' : Nat) (gs' : List Pg), pgsOf gs' = putP (pgsOf gs) pg at_ m.c ∧ Tab w' base g P' np' cp' gs' ∧ (P' = P ∨ ∀ k, blk P' = some k → w.heap.size ≤ k) ∧ Only w w' g P ∧ NewLock w gs gs')))

set_option maxRecDepth 20000 in
set_option maxHeartbeats 2000000 in
theorem putT_any {w : World} {base g : Nat} {P : Option Addr} {np cp : Nat} {gs : List Pg} (h : Tab w base g P np cp gs) (m : Cm) (hm : m.ok w) (hag : 0 < m.c.l.length → blk m.A ≠ some g) :
    Calls Try.prog 27 #[.pointer (some ⟨g, 0, none⟩), .agg (cc m).toArray] w fun e w' => putEnd w w' e base g P np cp gs m := by
  have b0 : Below w.heap.size w (w.alloc (.cells (cc m).toArray 57)) := (Below.refl _ _).alloc (Nat.le_refl _) _
  have f0 : (w.alloc (.cells (cc m).toArray 57)).heap[w.heap.size]? = some (.cells (cc m).toArray 57 (0, 0)) := heap_alloc_new w _
  obtain ⟨x0, y0⟩ := (coin_has hm.c.p f0).1
  have h0 := h.below b0
  have C := Lib.hid (off_at _ g true _ _ h0.row)
  have s0 : StW g w.heap.size m _ w (w.alloc (.cells (cc m).toArray 57)) := ⟨b0, f0, h0.row⟩
  have PU := put06_any m _ (hm.below b0)
  have HT := Lib.hid (And.intro h (And.intro hm hag))
  cases hmay : mayO m.c.v m.c.l with
  | false =>
    have HM := Lib.hid hmay
    have hq : (putCF m.c).2 = 2 := by unfold putCF; rw [hmay]; rfl
    rw [hq] at PU
    generalize (putCF m.c).1 = xs at PU
    have PU := Lib.hid PU
    clear h h0 f0 hm hag hq hmay
    go_enter Try.func27, Try.ntmps27
    go_wp2_with (fail)
    refine C.out.mono ?_
    rintro e w1 ⟨rfl, rfl⟩
    go_wp2_with (fail)
    refine PU.out.mono ?_
    rintro e w2 ⟨A, k, rfl, ho, hb⟩
    have bl := bThen b0 hb
    clear ho hb
    go_wp2_with (fail)
    go_ret
    exact .inl ⟨HM.out, rfl, bl⟩
  | true =>
    have HM := Lib.hid hmay
    have hq : (putCF m.c).2 = 0 := by unfold putCF; rw [hmay]; rfl
    rw [hq] at PU
    generalize (putCF m.c).1 = xs at PU
    have PU := Lib.hid PU
    have S0 := Lib.hid s0
    clear h h0 f0 hm hag hq s0 hmay
    go_enter Try.func27, Try.ntmps27
    go_wp2_with (fail)
    refine C.out.mono ?_
    rintro e w1 ⟨rfl, rfl⟩
    go_wp2_with (fail)
    refine PU.out.mono ?_
    rintro e w2 ⟨A, k, rfl, ho, hb⟩
    have s2 := S0.out.below hb
    obtain ⟨x2, y2⟩ := (coin_has HT.out.2.1.c.p s2.box).2
    have S2 := Lib.hid s2
    clear ho hb x0 y0 b0 s2
    go_wp2_with (fail)
    refine (find_any (HT.out.1.below S2.out.bel) m.c.p HT.out.2.1.c.p).mono ?_
    rintro e w3 ⟨pg, at_, is, rfl, hf, hb3⟩
    have s3 := S2.out.below hb3
    clear x2 y2 hb3
    cases is with
    | true =>
      have bl := s3.bel
      clear s3
      go_wp2_with (fail)
      go_ret
      exact .inr ⟨HM.out, pg, at_, true, hf, .inl ⟨rfl, rfl, bl⟩⟩
    | false =>
      have c2 : w3.cell? ⟨g, 2, none⟩ = some (.int .i64 (allC gs).length) := (row_cells s3.row 2).1
      by_cases hlim : 2000 ≤ (allC gs).length
      · have d1 : decide (((allC gs).length : Int) ≥ 2000) = true := decide_eq_true (by omega)
        have bl := s3.bel
        clear s3
        go_wp2_with (fail)
        go_ret
        exact .inr ⟨HM.out, pg, at_, false, hf, .inr (.inl ⟨rfl, hlim, rfl, bl⟩)⟩
      · have d1 : decide (((allC gs).length : Int) ≥ 2000) = false := decide_eq_false (by omega)
        have f2 := (row_cells s3.row 2).2
        have hw : IntKind.i64.wrap (((allC gs).length : Int) + 1) = ((allC gs).length : Int) + 1 := wrap_i64s (by omega)
        have hgl := (Array.getElem?_eq_some_iff.1 HT.out.1.row).1
        have hnew := (Array.getElem?_eq_some_iff.1 s3.box).1
        -- one coin more is told; the coin is copied
        have o4 : Only w (w3.setCell ⟨g, 2, none⟩ (.int .i64 (((allC gs).length : Int) + 1))) g P := (Only.of s3.bel).setCell (.inl rfl) _
        have r4 := heap_setCell_same _ g 2 _ _ (.int .i64 (((allC gs).length : Int) + 1)) s3.row
        have x4 := (Below.heap_setCell w3 ⟨g, 2, none⟩ (.int .i64 (((allC gs).length : Int) + 1)) w.heap.size (by show w.heap.size ≠ g; omega)).trans s3.box
        obtain ⟨u4, v4⟩ := (coin_has HT.out.2.1.c.p x4).1
        have m4 : m.ok (w3.setCell ⟨g, 2, none⟩ (.int .i64 (((allC gs).length : Int) + 1))) := by
          have hm3 := HT.out.2.1.below s3.bel
          refine ⟨hm3.c, ⟨?_, hm3.arg.isB, hm3.arg.cap, hm3.arg.top, hm3.arg.len⟩⟩
          refine ⟨hm3.arg.rd.1, fun hn0 => (Rd.keep hm3.arg.rd (by simp) fun k hk ad he hk2 => Below.heap_setCell _ _ _ _ (fun e => HT.out.2.2 hn0 ?_)).2 hn0⟩
          rw [he, ← show k = g from e, hk2]; rfl
        have CP := Lib.hid (copied_any m _ m4)
        have p4 := Own.setOther (HT.out.1.below s3.bel).pages (p := ⟨g, 2, none⟩) (fun e => Own.ne_block HT.out.1.pages HT.out.1.row (by decide) e) (.int .i64 (((allC gs).length : Int) + 1))
        have hsz4 : w3.heap.size ≤ (w3.setCell ⟨g, 2, none⟩ (.int .i64 (((allC gs).length : Int) + 1))).heap.size := by simp
        have Z := Lib.hid (And.intro hf (And.intro o4 (And.intro r4 (And.intro x4 p4))))
        clear hf s3 o4 r4 x4 m4 p4
        go_wp2_with (fail)
        refine CP.out.mono ?_
        rintro e w5 ⟨A5, k5, rfl, ho5, hb5⟩
        have hz5 : w3.heap.size ≤ w5.heap.size := Nat.le_trans hsz4 hb5.size
        have hz3 : w.heap.size < w3.heap.size := hnew
        have x5 := kept Z.out.2.2.2.1 hb5
        have hr5 : rowIs w5 w.heap.size 37 := rowIs_of x5 (by simpa using cc_length HT.out.2.1.c.p)
        have hok5 := cc_ok (m := ⟨m.c, A5, k5⟩) HT.out.2.1.c.p
        have x6 := setRow_heap w5 _ _ (cc ⟨m.c, A5, k5⟩).toArray _ _ x5
        have r6 := (setRow_other w5 w.heap.size g (cc ⟨m.c, A5, k5⟩).toArray (by omega)).trans (kept Z.out.2.2.1 hb5)
        have o6 : Only w (w5.setRow w.heap.size (cc ⟨m.c, A5, k5⟩).toArray) g P := (Z.out.2.1.then hb5).setRow (Nat.le_refl _) _
        have p6 := Own.setRowOther (g := w.heap.size) (Own.below Z.out.2.2.2.2 hb5) (fun e => by have := (Own.lt HT.out.1.pages _ e).2; omega) (cc ⟨m.c, A5, k5⟩).toArray
        have l6 := Own.setRowOther (g := w.heap.size) (OwnN.mono ho5 hsz4) (fun e => by have := (OwnN.lt ho5 _ e).1; omega) (cc ⟨m.c, A5, k5⟩).toArray
        obtain ⟨u6, v6⟩ := (coin_has (m := ⟨m.c, A5, k5⟩) HT.out.2.1.c.p x6).1
        have c61 : (w5.setRow w.heap.size (cc ⟨m.c, A5, k5⟩).toArray).cell? ⟨g, 1, none⟩ = some (.slice P np cp) := (row_cells r6 1).1
        have f61 := (row_cells r6 1).2
        have hz6 : w3.heap.size ≤ (w5.setRow w.heap.size (cc ⟨m.c, A5, k5⟩).toArray).heap.size := o6.size |> fun _ => by simpa using hz5
        have hlow := HT.out.1.low
        have hlg := HT.out.1.len
        have hlenm := HT.out.2.1.arg.len
        rcases Nat.eq_zero_or_pos np with rfl | hpos
        · obtain rfl : gs = [] := List.eq_nil_of_length_eq_zero hlg
          have hgn : g < (w5.setRow w.heap.size (cc ⟨m.c, A5, k5⟩).toArray).heap.size := by omega
          have hsz6 : (w5.setRow w.heap.size (cc ⟨m.c, A5, k5⟩).toArray).heap.size = w5.heap.size := by simp
          have b8 : Below (w5.setRow w.heap.size (cc ⟨m.c, A5, k5⟩).toArray).heap.size (w5.setRow w.heap.size (cc ⟨m.c, A5, k5⟩).toArray) (((w5.setRow w.heap.size (cc ⟨m.c, A5, k5⟩).toArray).alloc (.cells (cc ⟨m.c, A5, k5⟩).toArray 57)).alloc (.cells #[.slice (some ⟨w5.heap.size, 0, none⟩) 1 1] 22)) := belA ((Below.refl _ _).alloc (Nat.le_refl _) _) _ (Nat.le_refl _)
          have r8 := kept r6 b8
          have c8 := (row_cells r8 1).1
          have e8 := (row_cells r8 1).2
          have Y := Lib.hid (And.intro x6 (And.intro r6 (And.intro o6 (And.intro p6 (And.intro l6 (And.intro r8 b8))))))
          clear ho5 hb5 x5 x6 r6 o6 p6 l6 r8 b8
          go_wp2_with (fail)
          go_ret
          have hT := Tab.first HT.out.1 Y.out.2.2.1 Y.out.2.1 (m := ⟨m.c, A5, k5⟩) HT.out.2.1.c (Own.mono Y.out.2.2.2.2.1 (by omega)) hlenm hsz6
          refine .inr ⟨HM.out, pg, at_, false, Z.out.1, .inr (.inr ⟨rfl, by omega, rfl, some ⟨w5.heap.size + 1, 0, none⟩, 1, 1, _, ?_, hT.1, .inr (fun k hk => ?_), hT.2, fun z hz => .inr ?_⟩)⟩
          · rfl
          · have hk : w5.heap.size + 1 = k := by simpa [blk] using hk
            omega
          · have hz : z ∈ ([⟨m.c, A5, k5⟩] : List Cm) ++ [] := hz
            rw [List.append_nil] at hz
            rcases List.mem_singleton.1 hz with rfl
            intro k hk
            have := (OwnN.lt Y.out.2.2.2.2.1 k hk).1
            omega
        · obtain ⟨x, hx, hat⟩ := Z.out.1.page (by rintro rfl; simp at hlg; omega)
          have d2 : ((np : Int) == 0) = false := by simp; omega
          have Y := Lib.hid (And.intro x6 (And.intro r6 (And.intro o6 (And.intro p6 l6))))
          clear ho5 hb5 x5 x6 r6 o6 p6 l6
          go_wp2_with (fail)
          generalize w5.setRow w.heap.size (cc ⟨m.c, A5, k5⟩).toArray = w6 at *
          have hpl := (List.getElem?_eq_some_iff.1 hx).1
          have hpn : pg < np := by omega
          have hrd6 := Y.out.2.2.2.1.rd
          obtain ⟨ad, had, hbk6, hc6⟩ := hrd6.one hpn
          subst had
          rw [List.getElem?_map, hx] at hc6
          have hc6 : w6.cell? (ad.add pg) = some (.slice x.A x.n x.c) := hc6
          have hown := HT.out.1.own x (List.mem_of_getElem? hx)
          have hownW := hown.1.only Y.out.2.2.1 HT.out.1.kinds
          have hxl := hown.1.len
          have hxa := hown.1.arg
          have hxn := hown.2.2
          have i1 : (0 : Int) ≤ (pg : Int) := by omega
          have i2 : (pg : Int) < (np : Int) := by omega
          have bq : Below w6.heap.size w6 (w6.alloc (.cells (cc ⟨m.c, A5, k5⟩).toArray 57)) := (Below.refl _ _).alloc (Nat.le_refl _) _
          have hQ0 := StQ.of (m := ⟨m.c, A5, k5⟩) (Below.refl w6.heap.size w6).drew c61 hc6 HT.out.2.1.c.p Y.out.1
          have hQ1 := StQ.of (m := ⟨m.c, A5, k5⟩) bq.drew c61 hc6 HT.out.2.1.c.p Y.out.1
          have hxt : x.hs.length ≤ (allC gs).length := by rw [allC_split hx, List.length_append, List.length_append]; omega
          have CS := splicedC_any x.A x.n x.c (pcs x.hs) at_ at_ 0 ⟨some ⟨w6.heap.size, 0, none⟩, 1, 1, pcs [⟨m.c, A5, k5⟩]⟩ _ ⟨(hownW.below bq.drew).row.rd, pcs_one⟩ ⟨(one_row w6 ⟨m.c, A5, k5⟩ HT.out.2.1.c.p).drew, pcs_one⟩ (by omega) (by omega) (by omega) hxa.cap hxa.max (by show x.n + 1 ≤ _; omega)
          have hdn : at_ + 1 + (x.n - at_) = x.n + 1 := by omega
          dsimp only at CS
          rw [hdn] at CS
          have CS := Lib.hid CS
          have V := Lib.hid (And.intro hx (And.intro hown.1 hownW))
          clear hx hown hownW hxa hrd6 bq
          go_region_held3 (fun w' => StQ w6 g w.heap.size ⟨m.c, A5, k5⟩ (.slice (some ad) np cp) (ad.add pg) (.slice x.A x.n x.c) w') (first | exact hQ2 | exact hQ1 | exact hQ0)
            (first | (go_at_call 71; (with_reducible refine (CS.out).mono ?_); rintro e w10 ⟨A10, d10, rfl, ho10, hb10⟩; have hQ2 : StQ w6 g w.heap.size ⟨m.c, A5, k5⟩ (.slice (some ad) np cp) (ad.add pg) (.slice x.A x.n x.c) w10 := StQ.of (bThen hQ1.1 hb10) c61 hc6 HT.out.2.1.c.p Y.out.1))
          rename_i hHeldX
          have o10 := Y.out.2.2.1.then hQ2.1
          have r10 := kept Y.out.2.1 hQ2.1
          have p10 := Own.below Y.out.2.2.2.1 hQ2.1
          have l10 := OwnN.below (OwnN.mono Y.out.2.2.2.2 (show base ≤ w3.heap.size by omega)) hQ2.1
          have hpe : List.take (at_ * 37) (pcs x.hs) ++ pcs [⟨m.c, A5, k5⟩] ++ List.drop (at_ * 37) (pcs x.hs) = pcs (x.hs.take at_ ++ ⟨m.c, A5, k5⟩ :: x.hs.drop at_) := by
            have hpo := V.out.2.1.arg.pok
            rw [pcs_take hpo, pcs_drop hpo, ← pcs_append, ← pcs_append, List.append_assoc]; rfl
          rw [hpe] at ho10
          have a10 := Own.mono ho10 (show w.heap.size ≤ (w6.alloc (.cells (cc ⟨m.c, A5, k5⟩).toArray 57)).drew.heap.size by
            have h1 : (w6.alloc (.cells (cc ⟨m.c, A5, k5⟩).toArray 57)).drew.heap.size = w6.heap.size + 1 := by simp
            have h2 := Y.out.2.2.1.size
            omega)
          have c10 := hQ2.2.1
          have cA10 := hQ2.2.2.1
          clear hHeldX hQ1 hQ0 hb10 ho10
          have fA10 : w10.frozen? (ad.add pg) = false := by
            rcases p10.2 with ⟨h, _⟩ | ⟨kb, cur, h, _⟩
            · cases h
            · cases h
              rw [add_new]
              exact Own.frozen p10 pg
          by_cases h8 : x.n + 1 ≤ 8
          · have d3 : decide (((x.n + 1 : Nat) : Int) ≤ 8) = true := decide_eq_true (by omega)
            have hT := Tab.more HT.out.1 o10 r10 p10 a10 V.out.1 Z.out.1 (by omega) HT.out.2.1.c l10 hlenm hxl
            have hT := Lib.hid hT
            clear o10 r10 p10 a10 l10
            go_wp2_with (fail)
            go_ret
            exact .inr ⟨HM.out, pg, at_, false, Z.out.1, .inr (.inr ⟨rfl, by omega, rfl, some ad, np, cp, _, by rw [putP_small (m := ⟨m.c, A5, k5⟩) V.out.1 (by omega), pgsOf_set], hT.out.1, .inl rfl, hT.out.2.1, NewLock.put V.out.1 hT.out.2.2 (fun k hk => by have := (OwnN.lt Y.out.2.2.2.2 k hk).1; omega)⟩)⟩
          · have d3 : decide (((x.n + 1 : Nat) : Int) ≤ 8) = false := decide_eq_false (by omega)
            have hcap := Own.len_cap a10
            obtain ⟨kb, rfl⟩ : ∃ kb, A10 = some ⟨kb, 0, none⟩ := by
              rcases a10.2 with ⟨_, h, _⟩ | ⟨kb, cur, h, _⟩
              · omega
              · exact ⟨kb, h⟩
            have hP : Part.ok w10 37 ⟨some ⟨kb, 0, none⟩, x.n + 1, d10, pcs (x.hs.take at_ ++ ⟨m.c, A5, k5⟩ :: x.hs.drop at_)⟩ := ⟨a10.rd, pcs_one⟩
            have hpo : ∀ z ∈ (x.hs.take at_ ++ ⟨m.c, A5, k5⟩ :: x.hs.drop at_ : List Cm), z.c.p.ok := fun z hz => by
              rcases mem_put hz with hz | rfl
              · exact V.out.2.1.arg.pok z hz
              · exact HT.out.2.1.c.p
            have hp1 := hP.pre (k := 4) (by omega)
            have hp2 := hP.post (k := 4) (by omega) hcap.1
            rw [if_neg (show ¬ d10 = 4 by omega), pcs_drop hpo] at hp2
            rw [pcs_take hpo] at hp1
            have C1 := fun w' (hb : Below w10.heap.size w10 w') => cloneC_any _ w' (hp1.below hb) (by show 4 ≤ _; omega)
            have C2 := fun w' (hb : Below w10.heap.size w10 w') => cloneC_any _ w' (hp2.below hb) (by show x.n + 1 - 4 ≤ _; omega)
            dsimp only at C1 C2
            simp only [Option.map_some, add_new, Nat.reduceMul] at C2
            have hnp := HT.out.1.np_le
            have hpc := Own.len_cap p10
            have SP := fun (w' : World) (hb : Below w10.heap.size w10 w') (B1 B2 : Option Addr) (e1 e2 : Nat) => splicedP_any (some ad) np cp (gs.map Pg.cell) pg (pg + 1) 1 ⟨some ⟨w'.heap.size, 0, none⟩, 2, 2, [.slice B1 4 e1, .slice B2 (x.n + 1 - 4) e2]⟩ (w'.alloc (.cells #[.slice B1 4 e1, .slice B2 (x.n + 1 - 4) e2] 22)) ⟨(Rd.below p10.rd hb).alloc _, by
              intro u hu
              obtain ⟨y, _, rfl⟩ := List.mem_map.1 hu
              rfl⟩ ⟨(Own.lit (base := 0) (e := 22) (size := 1) (G := fun _ => True) w' #[.slice B1 4 e1, .slice B2 (x.n + 1 - 4) e2] 2 (Nat.zero_le _) (by decide) rfl (fun _ _ => trivial)).rd, by
              intro u hu
              rcases List.mem_cons.1 hu with rfl | hu
              · rfl
              · rcases List.mem_singleton.1 hu with rfl
                rfl⟩ (by omega) (by omega) (by omega) hpc.1 hpc.2 (by show np + 2 ≤ _; omega)
            dsimp only at SP
            have hd4 : pg + 2 + (np - (pg + 1)) = np + 1 := by omega
            rw [hd4] at SP
            have CC := Lib.hid (And.intro C1 (And.intro C2 SP))
            have hS0 : StR w10 g (.slice (some ad) np cp) w10.drew := StR.of (Below.refl _ _).drew r10
            have W := Lib.hid (And.intro o10 (And.intro r10 (And.intro p10 (And.intro a10 (And.intro l10 hQ2.1)))))
            have j1 : ¬ (d10 : Int) = 4 := by omega
            have j2 : (4 : Int) ≤ (d10 : Int) := by omega
            generalize hq : x.n + 1 = q at *
            have j3 : (4 : Int) ≤ (q : Int) := by omega
            have j4 : (q : Int) ≤ (d10 : Int) := by omega
            have hQ := Lib.hid hq
            clear o10 r10 p10 a10 l10 hP hpo hp1 hp2 C1 C2 SP hQ2 hq hdn
            go_wp2_with (fail)
            go_region_with (first
                | (go_at_call 73; (with_reducible refine (CC.out.1 _ hS0.1).mono ?_); rintro e w11 ⟨B1, e1, rfl, ho11, hb11⟩; have hS1 : StR w10 g (.slice (some ad) np cp) w11 := StR.of (bThen hS0.1 hb11) W.out.2.1)
                | (go_at_call 72; (with_reducible refine (CC.out.2.2 _ hS2.1 _ _ _ _).mono ?_); rintro e w14 ⟨P14, c14, rfl, ho14, hb14⟩; have hS4 : StR w10 g (.slice (some ad) np cp) w14 := StR.of (bThen hS3.1 hb14) W.out.2.1)
                | (go_at_call 73; (with_reducible refine (CC.out.2.1 _ hS1.1).mono ?_); rintro e w12 ⟨B2, e2, rfl, ho12, hb12⟩; have hS2 : StR w10 g (.slice (some ad) np cp) w12 := StR.of (bThen hS1.1 hb12) W.out.2.1; have hS3 : StR w10 g (.slice (some ad) np cp) (w12.alloc (.cells #[.slice B1 4 e1, .slice B2 (q - 4) e2] 22)) := StR.of (bThen hS2.1 ((Below.refl _ _).alloc (Nat.le_refl _) _)) W.out.2.1))
            all_goals (
              have hsz := W.out.1.size
              have l14 := OwnN.below W.out.2.2.2.2.1 hS4.1
              have b13 : Below w12.heap.size w12 (w12.alloc (.cells #[.slice B1 4 e1, .slice B2 (q - 4) e2] 22)) := (Below.refl _ _).alloc (Nat.le_refl _) _
              have b24 := bThen b13 hb14
              have b14 := bThen hb12 b24
              have z11 : w10.heap.size ≤ w11.heap.size := hS1.1.size
              have z12 : w10.heap.size ≤ w12.heap.size := hS2.1.size
              have z13 : w12.heap.size ≤ (w12.alloc (.cells #[.slice B1 4 e1, .slice B2 (q - 4) e2] 22)).heap.size := b13.size
              have q1 := Own.below (Own.mono ho11 (show w.heap.size ≤ w10.drew.heap.size from hsz)) b14
              have q2 := Own.below (Own.mono ho12 (show w.heap.size ≤ w11.heap.size by omega)) b24
              have q3 := Own.mono ho14 (show w.heap.size ≤ (w12.alloc (.cells #[.slice B1 4 e1, .slice B2 (q - 4) e2] 22)).heap.size by omega)
              have o14 := W.out.1.then hS4.1
              have r14 := kept W.out.2.1 hS4.1
              have hqq := hQ.out
              subst hqq
              have hT := Tab.split HT.out.1 o14 r14 q3 q1 q2 V.out.1 Z.out.1 (by omega) HT.out.2.1.c l14 hlenm hxl (by omega)
              have hT := Lib.hid hT
              have hF := Lib.hid (fun k hk => (Own.lt q3 k hk).1)
              clear hS0 hS1 hS2 hS3 hS4 ho11 ho12 ho14 hb11 hb12 hb14 l14 b13 b24 b14 q1 q2 q3 o14 r14
              go_wp2_with (fail)
              go_ret
              exact .inr ⟨HM.out, pg, at_, false, Z.out.1, .inr (.inr ⟨rfl, by omega, rfl, P14, np + 1, c14, _, (putP_big (m := ⟨m.c, A5, k5⟩) V.out.1 (by omega) ⟨B1, 4, e1, (x.hs.take at_ ++ ⟨m.c, A5, k5⟩ :: x.hs.drop at_ : List Cm).take 4⟩ ⟨B2, x.n + 1 - 4, e2, (x.hs.take at_ ++ ⟨m.c, A5, k5⟩ :: x.hs.drop at_ : List Cm).drop 4⟩ rfl rfl).symm, hT.out.1, .inr hF.out, hT.out.2.1, NewLock.put V.out.1 hT.out.2.2 (fun k hk => by have := (OwnN.lt Y.out.2.2.2.2 k hk).1; omega)⟩)⟩)
end Go.Proofs.Ytofclanljhfkiaa
