/- Joined texts: UnG, UnH. -/
import Derived.Test.YtofclanljhfkiaaM24
/- undo.Back on a table that is off. -/
namespace Go.Proofs.Ytofclanljhfkiaa
open Go.RowKit Go.Proofs En Co
set_option linter.unusedVariables false
set_option linter.unusedSimpArgs false
set_option maxRecDepth 20000
attribute [local go_sem ↓] ld_point_eq ld_coin_eq ld_hash_eq st_point_eq st_coin_eq bd_point_eq bd_coin_eq eq_point_eq ne_point_eq al_coin_eq al_point_eq bs_coin_eq bs_point_eq
attribute [local go_sem] ld_point_run ld_coin_run ld_hash_run st_point_run st_coin_run bd_point_zero bd_coin_zero bd_point_of bd_coin_of hash_at rowIs_34 rowIs_37 rowIs_both hasAt_both cellsAt_both eq_point_run ne_point_run guard_pt al_coin_run al_point_run al_coin_row al_point_row nil_bytes nil_coins bs_coin_run bs_point_run

abbrev ptrBox (v : Value) : Obj := .cells #[v] 26
abbrev argBox (u v : Value) : Obj := .cells #[u, v] 25
theorem leavesM_nil {F : Fence} {n : Nat} {P : Program} {fn : Func} {tmps : Array Value} {R : Ending → World → Prop} {w : World} {v : Value} (h : (results fn tmps).run P w = .ok v w) (hR : R (.returned v) w) : LeavesInM F n P fn tmps R [] .returning w := ⟨v, h, hR⟩
theorem bodyM_ret {F : Fence} {n : Nat} {P : Program} {fn : Func} {R : Ending → World → Prop} {a : Act} {w : World} (h : LeavesInM F n P fn a.tmps R a.defers .returning w) : bodyPostM F n P fn R .ret a w := h

set_option maxRecDepth 20000 in
set_option maxHeartbeats 1000000 in
theorem backN_at (w : World) (q : Option Addr) (h : Off w (.pointer q)) (A : Option Addr) (n c : Nat) (B : Option Addr) (n2 c2 : Nat) :
    Calls Try.prog 16 #[.pointer q, .agg #[.slice A n c, .slice B n2 c2]] w fun e w' => e = .returned (.int .i64 1) ∧ Below w.heap.size w w' := by
  obtain ⟨f0, k0, g0⟩ := three_box w (ptrBox (.pointer q)) (argBox (.slice A n c) (.slice B n2 c2)) errBox
  have b0 : Below w.heap.size w (((w.alloc (ptrBox (.pointer q))).alloc (argBox (.slice A n c) (.slice B n2 c2))).alloc errBox) := belA (belA ((Below.refl _ _).alloc (Nat.le_refl _) _) _ (Nat.le_refl _)) _ (by simp)
  have p0 := (row_cells f0 0).1
  have C := Lib.hid (bytesN_any _ (.pointer q) (h.below b0))
  have F := Lib.hid (And.intro g0 b0)
  clear h f0 g0 b0 k0
  refine callsIn_wide (n := 3).1 ?_
  refine callsIn_of_wp_marks Try.func16 rfl trivial (wpIn_wide.2 ?_) rfl
  simp only [Try.ntmps16, List.size_toArray, List.length_cons, List.length_nil, Nat.reduceAdd, Nat.reduceSub, Array.replicate_succ, Array.replicate_zero, List.push_toArray, List.append_toArray, List.nil_append, List.cons_append]
  go_wp2_with (fail)
  refine C.out.mono ?_
  rintro e w1 ⟨rfl, hb1⟩
  have g1 := kept F.out.1 hb1
  have d0 := (row_cells g1 0).1
  have h0 := (row_cells g1 0).2
  have B := Lib.hid (And.intro (bThen F.out.2 hb1) g1)
  clear g1 hb1
  go_wp2_with (fail)
  have q3 := heap_setCell_same _ _ 0 _ _ (.int .i64 1) B.out.2
  refine bodyM_ret (leavesM_nil (res_cell1 Try.results16 rfl (ld_errno _ _ _ (row_cells q3 0).1)) ⟨rfl, ?_⟩)
  exact B.out.1.setCell (by show _ ≤ w.heap.size + 1 + 1; omega) _
theorem backN_any (w : World) (pv : Value) (h : Off w pv) (A : Option Addr) (n c : Nat) (B : Option Addr) (n2 c2 : Nat) :
    Calls Try.prog 16 #[pv, .agg #[.slice A n c, .slice B n2 c2]] w fun e w' => e = .returned (.int .i64 1) ∧ Below w.heap.size w w' := by
  rcases h with rfl | ⟨g, rfl, hg⟩
  · exact backN_at w none (.inl rfl) A n c B n2 c2
  · exact backN_at w _ (.inr ⟨g, rfl, hg⟩) A n c B n2 c2
end Go.Proofs.Ytofclanljhfkiaa
/- undo.Back on a table: the walk. -/
namespace Go.Proofs.Ytofclanljhfkiaa
open Go.RowKit Go.Proofs En Co
set_option linter.unusedVariables false
set_option linter.unusedSimpArgs false
set_option maxRecDepth 20000
attribute [local go_sem ↓] ld_point_eq ld_coin_eq ld_hash_eq st_point_eq st_coin_eq bd_point_eq bd_coin_eq eq_point_eq ne_point_eq al_coin_eq al_point_eq bs_coin_eq bs_point_eq
attribute [local go_sem] ld_point_run ld_coin_run ld_hash_run st_point_run st_coin_run bd_point_zero bd_coin_zero bd_point_of bd_coin_of hash_at rowIs_34 rowIs_37 rowIs_both hasAt_both cellsAt_both eq_point_run ne_point_run guard_pt al_coin_run al_point_run al_coin_row al_point_row nil_bytes nil_coins bs_coin_run bs_point_run Oper.semAt_some

/-- between two steps of Back -/
structure BackS (wc wr : World) (base g : Nat) (P Pk : Option Addr) (qs : List (List Cn)) : Prop where
  only : Only wc wr g P
  kp : Kept wc P Pk
  t : Tb wr base g Pk qs
section
variable {w wc wr w3 w5 : World} {base b g k E : Nat} {P Pk P2 P' : Option Addr} {ps qs qs' rs : List (List Cn)} {q : Int}
theorem BackS.below (h : BackS wc wr base g P Pk qs) (hb : Below wr.heap.size wr w3) : BackS wc w3 base g P Pk qs := ⟨h.only.then hb, h.kp, h.t.below hb⟩
theorem BackS.move (h : BackS wc wr base g P Pk qs) (ho : Only wr w3 g Pk) (hk : Kept wr Pk P') (hT : Tb w3 base g P' qs') : BackS wc w3 base g P P' qs' := ⟨h.only.chain h.kp ho, h.kp.chain hk h.only.size, hT⟩
theorem keptW_ok (m : Nat) (w : World) (u : FrameMode) (pv qv : Value) (b : Nat) (h : w.cell? ⟨b, 0, none⟩ = some (.int .i64 0)) :
    CallsDIn Fence.wide m Try.prog 53 #[pv, qv, .pointer (some ⟨b, 0, none⟩)] u w fun e u' w' => u' = u ∧ (e = .returned (.tuple #[]) ∧ w' = w) := by
  refine callsDIn_of_wp Try.func53 rfl trivial (wpIn_wide.2 ?_) rfl
  simp only [Try.ntmps53, List.size_toArray, List.length_cons, List.length_nil, Nat.reduceAdd, Nat.reduceSub, Array.replicate_succ, Array.replicate_zero, List.push_toArray, List.append_toArray, List.nil_append, List.cons_append]
  go_wp2_with (fail)
  go_end0
  exact ⟨rfl, rfl⟩
theorem keptW_err (mm : Nat) (w : World) (u : FrameMode) (g k : Nat) (b : Nat) (q : Int) (x y z : Value) (P : Option Addr) (n c : Nat) (m : Int) (hq : (q == 0) = false) (h : w.cell? ⟨b, 0, none⟩ = some (.int .i64 q))
    (hg : w.heap[g]? = some (.cells #[x, y, z] 29 (0, 0))) (hk : w.heap[k]? = some (.cells #[.bool true, .slice P n c, .int .i64 m] 29 (0, 0))) :
    CallsDIn Fence.wide mm Try.prog 53 #[.pointer (some ⟨g, 0, none⟩), .pointer (some ⟨k, 0, none⟩), .pointer (some ⟨b, 0, none⟩)] u w fun e u' w' => u' = u ∧ (e = .returned (.tuple #[]) ∧ w' = ((w.setCell ⟨g, 0, none⟩ (.bool true)).setCell ⟨g, 1, none⟩ (.slice P n c)).setCell ⟨g, 2, none⟩ (.int .i64 m)) := by
  have k0 : w.cell? ⟨k, 0, none⟩ = some (.bool true) := (row_cells hk 0).1
  have k1 : w.cell? ⟨k, 1, none⟩ = some (.slice P n c) := (row_cells hk 1).1
  have k2 : w.cell? ⟨k, 2, none⟩ = some (.int .i64 m) := (row_cells hk 2).1
  have g0 : w.cell? ⟨g, 0, none⟩ = some x := (row_cells hg 0).1
  have g1 : w.cell? ⟨g, 1, none⟩ = some y := (row_cells hg 1).1
  have g2 : w.cell? ⟨g, 2, none⟩ = some z := (row_cells hg 2).1
  have f0 := (row_cells hg 0).2
  have f1 := (row_cells hg 1).2
  have f2 := (row_cells hg 2).2
  clear hg hk
  refine callsDIn_of_wp Try.func53 rfl trivial (wpIn_wide.2 ?_) rfl
  simp only [Try.ntmps53, List.size_toArray, List.length_cons, List.length_nil, Nat.reduceAdd, Nat.reduceSub, Array.replicate_succ, Array.replicate_zero, List.push_toArray, List.append_toArray, List.nil_append, List.cons_append]
  go_wp2_with (fail)
  go_end0
  exact ⟨rfl, rfl⟩
theorem leavesM_fn {n : Nat} {P : Program} {fn : Func} {tmps : Array Value} {R : Ending → World → Prop} {w : World} {f : Nat} {args : Array Value} {ds : List Deferred} {R2 : World → Prop} (hi : (invoke (.fn (.func f) #[]) args).run P w = .ok (.enter f args) w) (h : CallsDIn Fence.wide (n - 1) P f args .returning w fun e u' w' => u' = .returning ∧ (e = .returned (.tuple #[]) ∧ R2 w')) (hk : ∀ w', R2 w' → LeavesInM Fence.wide n P fn tmps R ds .returning w') :
    LeavesInM Fence.wide n P fn tmps R ({ target := .fn (.func f) #[], args := args } :: ds) .returning w := by
  refine ⟨by simp, .inr ⟨fun h => by simp [Fence.wide] at h, .func f, #[], f, args, rfl, hi, fun _ _ => trivial, h.mono ?_⟩⟩
  rintro e u' w' ⟨rfl, rfl, h2⟩
  exact hk w' h2
theorem leavesM_mark {F : Fence} {n : Nat} {P : Program} {fn : Func} {tmps : Array Value} {R : Ending → World → Prop} {w : World} {D : Nat} {ds : List Deferred} (hD : w.heap[D]? = some (.deferred (some []))) (h : LeavesInM F n P fn tmps R ds .returning (w.putObj D (.deferred none))) :
    LeavesInM F n P fn tmps R ({ target := .collected D, args := #[] } :: ds) .returning w :=
  ⟨by simp, .inl ⟨D, _, rfl, run_takeDeferred hD, h⟩⟩
theorem back_fail {m : Nat} {fn : Func} (hf : fn.results = #[.cell 4 30]) {tmps : Array Value} (hbb : w.heap.size ≤ b) (hbase : base ≤ w.heap.size) (hc : Tb w5 b k P2 ps) (ht : Tb w5 base g Pk qs) (ho : Only w w5 g P) (hE : w5.heap[E]? = some (.cells #[.int .i64 q] 30 (0, 0))) (hq : q ≠ 0) {r : List (List Cn) × Int} (hr : r = (ps, q)) (h4 : tmps.getD 4 undef = .pointer (some ⟨E, 0, none⟩)) :
    LeavesInM Fence.wide m Try.prog fn tmps (BackE w base g P r) [{ target := .fn (.func 53) #[], args := #[ptr g, ptr k, .pointer (some ⟨E, 0, none⟩)] }] .returning w5 := by
  obtain ⟨n, c, x1, y1, z1, k1, k2, k3, k4, k5⟩ := restored hbb hbase hc ht ho
  have hEg : E ≠ g := fun e => by
    subst e
    rw [hE] at k2
    injection k2 with k2
    injection k2 with _ k2
    exact absurd k2 (by decide)
  refine leavesM_fn (kept_enters _ _) (keptW_err _ _ .returning g k E q x1 y1 z1 P2 n c _ (by simpa using hq) (row_cells hE 0).1 k2 k1) ?_
  rintro w6 rfl
  have hn : ((((w5).setCell ⟨g, 0, none⟩ (.bool true)).setCell ⟨g, 1, none⟩ (.slice P2 n c)).setCell ⟨g, 2, none⟩ (.int .i64 ps.flatten.length)).heap[E]? = w5.heap[E]? :=
    ((Below.heap_setCell _ _ _ _ (show E ≠ g from hEg)).trans (Below.heap_setCell _ _ _ _ (show E ≠ g from hEg))).trans (Below.heap_setCell _ _ _ _ (show E ≠ g from hEg))
  refine leavesM_nil (res_cell1 hf h4 (ld_errno _ _ _ (row_cells (hn.trans hE) 0).1)) ?_
  subst hr
  exact ⟨rfl, P2, k3, k4, k5⟩
theorem back_good {m : Nat} {fn : Func} (hf : fn.results = #[.cell 4 30]) {tmps : Array Value} {pv qv : Value} (ht : Tb w5 base g Pk rs) (hk : Kept w P Pk) (ho : Only w w5 g P) (hE : w5.heap[E]? = some (.cells #[.int .i64 0] 30 (0, 0))) {r : List (List Cn) × Int} (hr : r = (rs, 0)) (h4 : tmps.getD 4 undef = .pointer (some ⟨E, 0, none⟩)) :
    LeavesInM Fence.wide m Try.prog fn tmps (BackE w base g P r) [{ target := .fn (.func 53) #[], args := #[pv, qv, .pointer (some ⟨E, 0, none⟩)] }] .returning w5 := by
  refine leavesM_fn (kept_enters _ _) (keptW_ok _ _ .returning pv qv E (row_cells hE 0).1) ?_
  rintro w6 rfl
  refine leavesM_nil (res_cell1 hf h4 (ld_errno _ _ _ (row_cells hE 0).1)) ?_
  subst hr
  exact ⟨rfl, Pk, ht, hk, ho⟩
end
/-- a change of what is no cells -/
theorem Spare.others {W W' : World} {row : Option Nat} (hg : W.grownBy W' row) (hr : ∀ r, row = some r → ∃ o : Obj, W.heap[r]? = some o ∧ o.isCells = false) : Spare W W' 1000000 :=
  ⟨hg.size, fun j xs T hj _ => hg.block j (Array.getElem?_eq_some_iff.1 hj).1 (fun e => by
    obtain ⟨o, ho, hc⟩ := hr j e.symm
    rw [hj] at ho
    cases ho
    cases hc)⟩
theorem Below.keeps {W W' : World} (h : Below W.heap.size W W') : KeepsOthers W W' := ⟨h.size, fun k o hk _ => (h.block k (Array.getElem?_eq_some_iff.1 hk).1).trans hk⟩
theorem Only.keeps {W W' : World} {g : Nat} {P : Option Addr} (h : Only W W' g P) (hk : Kinds W g P) : KeepsOthers W W' :=
  ⟨h.size, fun k o ho hc => h.heap ho (fun e => by
    obtain ⟨⟨xs, h1⟩, _⟩ := hk
    subst e
    rw [ho] at h1
    injection h1 with h1
    subst h1
    cases hc) (fun e => by
    obtain ⟨xs, h1⟩ := hk.2 k e
    rw [ho] at h1
    injection h1 with h1
    subst h1
    cases hc)⟩
theorem KpB.below {b : Nat} {A : Option Addr} {W W' : World} (h : Below W.heap.size W W') (hb : b < W.heap.size) (hA : ∀ k, blk A = some k → k < W.heap.size) : KpB b A W W' := ⟨h.size, h.block b hb, fun k hk => h.block k (hA k hk)⟩
/-- between two rounds of Back: the first coins are put -/
structure BackI (wc : World) (base g : Nat) (P : Option Addr) (bb : Nat) (qs : List (List Cn)) {hs : List Cm} (pre : List (BackA hs)) (W : World) : Prop where
  ok : (putsM qs (cns (backOf pre))).2 = 0
  ex : ∃ Pk, BackS wc W base g P Pk (putsM qs (cns (backOf pre))).1 ∧ blk Pk ≠ some bb
  lt : bb < W.heap.size
/-- a coin may not be put -/
structure BackX (w : World) (base g : Nat) (P : Option Addr) (b k : Nat) (P2 : Option Addr) (ps : List (List Cn)) (E : Nat) (qs : List (List Cn)) {hs : List Cm} (pre : List (BackA hs)) (W : World) : Prop where
  err : (putsM qs (cns (backOf pre))).2 ≠ 0
  ex : ∃ Pk qs', Tb W base g Pk qs'
  copy : Tb W b k P2 ps
  only : Only w W g P
  row : W.heap[E]? = some (.cells #[.int .i64 (putsM qs (cns (backOf pre))).2] 30 (0, 0))
section
variable {w wc W W' : World} {base b g k E bb B : Nat} {P Pk P2 P' : Option Addr} {ps qs : List (List Cn)} {hs : List Cm}
theorem BackI.own (hB : wc.heap.size ≤ B) : OwnFrom B (fun (pre : List (BackA hs)) W => BackI wc base g P bb qs pre W) := fun pre W W' row h hg hr => by
  obtain ⟨h1, ⟨Pk, ⟨h2, h3, h4⟩, h5⟩, h6⟩ := h
  have s := Spare.others hg (fun r e => (hr r e).2)
  exact ⟨h1, ⟨Pk, ⟨h2.more hg (fun r e => Nat.le_trans hB (hr r e).1), h3, h4.spare s (by decide) (by decide) (by decide) (by decide)⟩, h5⟩, Nat.lt_of_lt_of_le h6 hg.size⟩
theorem BackX.own (hB : w.heap.size ≤ B) (c : Code) : OwnFrom B (fun (pre : List (BackA hs)) W => c = .ret ∧ BackX w base g P b k P2 ps E qs pre W) := fun pre W W' row h hg hr => by
  obtain ⟨h0, h1, ⟨Pk, qs', h2⟩, h3, h4, h5⟩ := h
  have s := Spare.others hg (fun r e => (hr r e).2)
  exact ⟨h0, h1, ⟨Pk, qs', h2.spare s (by decide) (by decide) (by decide) (by decide)⟩, h3.spare s (by decide) (by decide) (by decide) (by decide), h4.more hg (fun r e => Nat.le_trans hB (hr r e).1), (s.block _ _ _ h5 (by decide)).trans h5⟩
theorem BackI.below {pre : List (BackA hs)} (h : BackI wc base g P bb qs pre W) (hb : Below W.heap.size W W') : BackI wc base g P bb qs pre W' := by
  obtain ⟨h1, ⟨Pk, h2, h5⟩, h6⟩ := h
  exact ⟨h1, ⟨Pk, h2.below hb, h5⟩, Nat.lt_of_lt_of_le h6 hb.size⟩
theorem puts_snoc : ∀ (cs : List Cn) (qs : List (List Cn)) (c : Cn), (putsM qs cs).2 = 0 → putsM qs (cs ++ [c]) = putM (putsM qs cs).1 c
  | [], qs, c, _ => by
    show putsM qs [c] = putM qs c
    rw [putsM_cons]
    split
    · rename_i h
      rw [putsM_nil]
      rw [← h]
    · rfl
  | d :: r, qs, c, h => by
    rw [putsM_cons] at h
    rw [List.cons_append, putsM_cons, putsM_cons]
    split
    · rename_i h2
      rw [if_pos h2] at h
      exact puts_snoc r _ c h
    · rename_i h2
      rw [if_neg h2] at h
      exact absurd h h2
theorem puts_more : ∀ (cs ds : List Cn) (qs : List (List Cn)), (putsM qs cs).2 ≠ 0 → putsM qs (cs ++ ds) = putsM qs cs
  | [], ds, qs, h => absurd rfl h
  | d :: r, ds, qs, h => by
    rw [putsM_cons] at h
    rw [List.cons_append, putsM_cons, putsM_cons]
    split
    · rename_i h2
      rw [if_pos h2] at h
      exact puts_more r ds _ h
    · rfl
theorem KpB.only {b g base : Nat} {A Pj : Option Addr} {W W' : World} {qs : List (List Cn)} {n c : Nat} {hs : List Cm} (ht : Tb W base g Pj qs) (ho : Only W W' g Pj) (hb : b < W.heap.size) (hbg : b ≠ g) (hs' : blk Pj ≠ some b) (fp : FirmP W base ⟨A, n, c, hs⟩) : KpB b A W W' :=
  ⟨ho.size, ho.block b hb hbg hs', fun k hk => (Soft.tb ht ho).block (fp.row.o k hk)⟩
theorem sep_kept {b : Nat} {W : World} {Pj P' : Option Addr} (hk : Kept W Pj P') (hb : b < W.heap.size) (hs : blk Pj ≠ some b) : blk P' ≠ some b := by
  rcases hk with rfl | hk
  · exact hs
  · intro e
    have := hk b e
    omega
theorem cns_reverse (hs : List Cm) : cns hs.reverse = (cns hs).reverse := by unfold cns; rw [List.map_reverse]
theorem backOf_snoc (pre : List (BackA hs)) (x : BackA hs) : cns (backOf (pre ++ [x])) = cns (backOf pre) ++ [x.1.2.c] := by unfold backOf cns; simp
end
theorem backward_any (w : World) (A : Option Addr) (n c : Nat) : Calls Try.prog 54 #[.slice A n c] w fun e w' => e = .returned (.func (.func 91) #[] #[.pointer (some ⟨w.heap.size, 0, none⟩)]) ∧ w' = w.alloc (.cells #[.slice A n c] 22) := by
  have hmf : ∀ (fn : Fn) (first cap : Array Value) (w : World), (Instr.makeFunc fn first cap).run Try.prog w = .ok (.func fn first cap) w := fun _ _ _ _ => rfl
  go_enter Try.func54, Try.ntmps54
  go_wp2_with (fail)
  go_ret
  exact ⟨rfl, rfl⟩

set_option maxRecDepth 20000 in
set_option maxHeartbeats 4000000 in
theorem back_m {w : World} {base g : Nat} {P : Option Addr} {ps : List (List Cn)} (h : Tb w base g P ps) {A : Option Addr} {n c : Nat} {hs : List Cm} (hp : FirmP w base ⟨A, n, c, hs⟩) {B : Option Addr} {n2 c2 : Nat} {xs : List Pt} (hq : FirmQ w base B n2 c2 xs) :
    Calls Try.prog 16 #[ptr g, .agg #[.slice A n c, .slice B n2 c2]] w fun e w' => BackE w base g P (backM ps (cns hs) xs) e w' := by
  obtain ⟨f0, k0, g0⟩ := three_box w (ptrBox (ptr g)) (argBox (.slice A n c) (.slice B n2 c2)) errBox
  have b0 : Below w.heap.size w (((w.alloc (ptrBox (ptr g))).alloc (argBox (.slice A n c) (.slice B n2 c2))).alloc errBox) := belA (belA ((Below.refl _ _).alloc (Nat.le_refl _) _) _ (Nat.le_refl _)) _ (by simp)
  have p0 := (row_cells f0 0).1
  have CB := Lib.hid (bytes_m (h.below b0))
  have H := Lib.hid (And.intro h (And.intro hq (And.intro hp (And.intro f0 (And.intro k0 (And.intro g0 b0))))))
  have hgl := h.low.2
  have hbase : base ≤ w.heap.size := by have := h.low; omega
  have hPl : ∀ j, blk P = some j → j < w.heap.size := fun j hj => (h.plow j hj).2
  have hpm := h.most
  have hncap : n ≤ c := hp.arg.cap
  have hmax : c ≤ 9223372036854775807 := by have := hp.arg.max; simp only [maxLen] at this; omega
  have hn2cap := hq.cap
  have hmax2 : c2 ≤ 9223372036854775807 := by have := hq.max; simp only [maxLen] at this; omega
  clear h hq hp f0 g0 b0 k0
  refine callsIn_wide (n := 3).1 ?_
  refine callsIn_of_wp_marks Try.func16 rfl trivial (wpIn_wide.2 ?_) rfl
  simp only [Try.ntmps16, List.size_toArray, List.length_cons, List.length_nil, Nat.reduceAdd, Nat.reduceSub, Array.replicate_succ, Array.replicate_zero, List.push_toArray, List.append_toArray, List.nil_append, List.cons_append]
  go_wp2_with (fail)
  refine CB.out.mono ?_
  rintro e w1 ⟨A1, k1, rfl, hl1, hb1⟩
  obtain ⟨q1, rfl⟩ := own_some hl1 (tableF_pos ps)
  have hb01 := bThen H.out.2.2.2.2.2.2 hb1
  have hS1 : w1.drew.cell? ⟨w.heap.size, 0, none⟩ = some (ptr g) := (row_cells (kept H.out.2.2.2.1 hb1) 0).1
  have CC := Lib.hid (copy_m ((H.out.1.below hb01).below (Below.refl w1.heap.size w1).drew))
  have B1 := Lib.hid (And.intro hb01 (And.intro hb1 (Nat.lt_of_lt_of_le (by simp; omega : w.heap.size < (((w.alloc (ptrBox (ptr g))).alloc (argBox (.slice A n c) (.slice B n2 c2))).alloc errBox).heap.size) hb1.size)))
  clear hl1 hb1 hb01 p0
  go_wp2_with (fail)
  go_region_held3 (fun w' => w'.cell? ⟨w.heap.size, 0, none⟩ = some (ptr g)) (first | exact hS2 | exact hS1)
    (first | (go_at_call 43; (with_reducible refine CC.out.mono ?_); rintro e wc ⟨g2, P2, rfl, hT2, hb2⟩; have hS2 : wc.cell? ⟨w.heap.size, 0, none⟩ = some (ptr g) := (hb2.cell B1.out.2.2).trans hS1))
  rename_i hHeldX
  clear hHeldX hS1 hS2
  have hb2 : Below w1.heap.size w1 wc := ((Below.refl w1.heap.size w1).drew).trans hb2
  have bc := bThen B1.out.1 hb2
  have hbk := bThen B1.out.2.1 hb2
  have S := Lib.hid (And.intro bc (And.intro (H.out.1.below bc) (And.intro (H.out.2.1.below bc) (And.intro (H.out.2.2.1.below bc) (And.intro hT2 (And.intro (kept H.out.2.2.2.1 hbk) (And.intro (kept H.out.2.2.2.2.1 hbk) (kept H.out.2.2.2.2.2.1 hbk))))))))
  have hbx := (row_cells (kept H.out.2.2.2.2.1 hbk) 1).1
  clear bc hbk hT2 hb2
  go_wp2_with (fail)
  go_loopw [6, 7, 8, 21] (fun _ _ _ i wr => ∃ (k : Nat) (Pk : Option Addr) (qs : List (List Cn)) (cs : List Cn), k ≤ n2 ∧ i = .int .i64 k ∧ TakeI ps xs k qs cs ∧ BackS wc wr base g P Pk qs) (fun _ _ _ i _ => n2 - (intOf i).toNat)
  case atStart => exact ⟨0, P, ps, [], by omega, rfl, TakeI.start _ _, Only.of (Below.refl _ _), .inl rfl, S.out.2.1⟩
  case round =>
    obtain ⟨k, Pk, qs, cs, hk, rfl, hT, hD⟩ := hrel
    have hX := (row_cells (hD.only.boxU S.out.2.1.kinds S.out.2.2.2.2.2.1 (by decide) (by decide)) 0).1
    clear hbx
    by_cases hlt : k < n2
    · have d1 : decide ((k : Int) < (n2 : Int)) = true := decide_eq_true (by omega)
      have hsoft := Soft.tb S.out.2.1 hD.only
      obtain ⟨ad, p, rfl, hp, hpo, hbk, hcp⟩ := (S.out.2.2.1.soft hsoft).at_ hlt
      have hld := ld_point_of wr (ad.add (k * 34)) p hpo hcp
      have sl := slot_self wr (.cells (pc zeroPt).toArray 54) (pc p).toArray
      have hl2 := ld_point_of _ ⟨wr.heap.size, 0, none⟩ p hpo (point_at (both_row wr (pc zeroPt).toArray 54 (pc p).toArray))
      have hX2 := (row_cells (kept (hD.only.boxU S.out.2.1.kinds S.out.2.2.2.2.2.1 (by decide) (by decide)) sl) 0).1
      have TK := take_m (hD.t.below sl) p hpo
      have hck := takeM_ok (p := p) hD.t.ok
      obtain ⟨qs2, cn, q, hcq⟩ : ∃ qs2 cn q, takeM qs p = (qs2, cn, q) := ⟨_, _, _, rfl⟩
      simp only [hcq] at TK hck
      have TK := Lib.hid TK
      have X := Lib.hid (And.intro hT (And.intro hp (And.intro hcq (And.intro hD sl))))
      have i1 : (0 : Int) ≤ (k : Int) := by omega
      have i2 : (k : Int) < (n2 : Int) := by omega
      have hokz := cc_ok (m := zm) zeroPt_ok
      have hokp := pc_ok hpo
      clear hT hp hcq hD sl hcp hsoft hX
      go_wp2_with (fail)
      refine TK.out.mono ?_
      rintro e w3 ⟨A3, k3, rfl, hl3, P', hT3, hk3, ho3⟩
      have hok3 := cc_ok (m := ⟨cn, A3, k3⟩) hck.p
      have sl3 := slot_self w3 (.cells (cc zm).toArray 57) (cc ⟨cn, A3, k3⟩).toArray
      have D3 := (((X.out.2.2.2.1.below X.out.2.2.2.2).move ho3 hk3 hT3).below sl3)
      clear hT3 hk3 ho3 sl3 hld hl2 hl3 hX2
      by_cases hq0 : q = 0
      · have dq : (q == 0) = true := by rw [hq0]; rfl
        have dq2 : (q != 0) = false := by rw [hq0]; rfl
        have hnx := X.out.1.next X.out.2.2.2.1.t.rise X.out.2.1 (by rw [X.out.2.2.1]; exact hq0)
        rw [X.out.2.2.1] at hnx
        have Z := Lib.hid (And.intro D3 hnx)
        clear D3 hnx hq0
        go_wp2_with (fail)
        go_roundw
        case rel => exact ⟨k + 1, P', qs2, _, by omega, by go_num, Z.out.2, Z.out.1⟩
        case measure => simp [intOf]; omega
      · have dq : (q == 0) = false := by simpa using hq0
        have dq2 : (q != 0) = true := by simpa using hq0
        have rE := D3.only.boxU S.out.2.1.kinds S.out.2.2.2.2.2.2.2 (by decide) (by decide)
        have c0 := (row_cells rE 0).1
        have e0 := (row_cells rE 0).2
        have hst := X.out.1.stop X.out.2.1 (by rw [X.out.2.2.1]; exact hq0)
        rw [X.out.2.2.1] at hst
        have hr : backM ps (cns hs) xs = (ps, q) := (backM_take (by rw [hst]; exact hq0)).trans (by rw [hst])
        have Y := Lib.hid (And.intro D3 (And.intro rE (And.intro hq0 hr)))
        clear D3 rE hq0 hst hr
        go_wp2_with (fail)
        have s5 := Spare.set Y.out.2.1 0 (.int .i64 q)
        refine bodyM_ret (back_fail Try.results16 B1.out.1.size hbase ((copy_kept S.out.2.1 S.out.2.2.2.2.1 B1.out.1.size hgl hPl Y.out.1.only).spare s5 (by decide) (by decide) (by decide) (by decide)) (Y.out.1.t.spare s5 (by decide) (by decide) (by decide) (by decide)) ((Only.pre S.out.1 Y.out.1.only).cellN (by show _ ≤ w.heap.size + 1 + 1; omega) _) ?_ Y.out.2.2.1 Y.out.2.2.2 rfl)
        have := heap_setCell_same _ _ 0 _ _ (.int .i64 q) Y.out.2.1
        simpa using this
    · obtain rfl : k = n2 := by omega
      have d1 : decide ((k : Int) < (k : Int)) = false := decide_eq_false (by omega)
      have hdn := hT.done H.out.2.1.len
      have hbx := (row_cells (hD.only.boxU S.out.2.1.kinds S.out.2.2.2.2.2.2.1 (by decide) (by decide)) 0).1
      have X := Lib.hid (And.intro hdn hD)
      clear hT hD hdn hX
      obtain ⟨w9, hw9⟩ : ∃ w9, w9 = wr := ⟨_, rfl⟩
      subst hw9
      have BK := Lib.hid (backward_any w9 A n c)
      go_wp2_with (fail)
      refine BK.out.mono ?_
      rintro e wb ⟨rfl, hwb⟩
      go_wp2_with (fail)
      have hfp : FirmP w9 base ⟨A, n, c, hs⟩ := S.out.2.2.2.1.soft (Soft.tb S.out.2.1 X.out.2.only)
      have hAl : ∀ j, blk A = some j → j < (w9.alloc (.cells #[.slice A n c] 22)).heap.size := fun j hj => by have := (hfp.row j hj).1; simp; omega
      have bw0 : Below w9.heap.size w9 (w9.alloc (.cells #[.slice A n c] 22)) := (Below.refl _ _).alloc (Nat.le_refl _) _
      have hsz0 : wc.heap.size ≤ (w9.alloc (.cells #[.slice A n c] 22)).heap.size := Nat.le_trans X.out.2.only.size bw0.size
      have hsz1 : w.heap.size ≤ (w9.alloc (.cells #[.slice A n c] 22)).heap.size := Nat.le_trans S.out.1.size hsz0
      have hbl : w9.heap.size < (w9.alloc (.cells #[.slice A n c] 22)).heap.size := by simp
      have hbr : (w9.alloc (.cells #[.slice A n c] 22)).heap[w9.heap.size]? = some (.cells #[.slice A n c] 22 (0, 0)) := heap_alloc_new _ _
      have hI0 : BackI wc base g P w9.heap.size qs ([] : List (BackA hs)) (w9.alloc (.cells #[.slice A n c] 22)) := ⟨rfl, ⟨Pk, X.out.2.below bw0, fun e => by have := (X.out.2.t.plow _ e).2; omega⟩, hbl⟩
      have ST := back_stops 2 (by omega) w9.heap.size A n c hs _ hbl hbr (hfp.below bw0).arg.rd (fun m hm => ((hfp.arg.ok m hm).c.p)) hfp.arg.len hAl (by omega)
      clear bw0 BK
      generalize w9.alloc (.cells #[.slice A n c] 22) = W0 at *
      have hbg : w9.heap.size ≠ g := by have := X.out.2.only.size; have := S.out.1.size; omega
      have hHD := Lib.hid (show w.heap.size + 1 + 1 < W0.heap.size from Nat.lt_of_lt_of_le (Array.getElem?_eq_some_iff.1 S.out.2.2.2.2.2.2.2).1 hsz0)
      have Y := Lib.hid (And.intro hfp (And.intro hsz0 (And.intro hsz1 hAl)))
      clear hfp hsz0 hsz1
      refine (wpIn_wide (n := 3)).1 ?_
      refine wpIn_rangeFunc_ownH rfl (by omega) (gf := 91) (lb := #[.pointer (some ⟨w9.heap.size, 0, none⟩)]) rfl trivial (fun args w => by simp [go_sem]) ST (fun h k => h.trans k) (KpB.put hbl hAl) (Below.refl _ _) (fun _ => rfl)
        (fun pre W => BackI wc base g P w9.heap.size qs pre W) (fun cd pre W => cd = .ret ∧ BackX w base g P w1.heap.size g2 P2 ps (w.heap.size + 1 + 1) qs pre W) (BackI.own Y.out.2.1) (fun cd => BackX.own Y.out.2.2.1 cd) hI0
        (fun x a' W => ∃ Bx, W.heap[Bx]? = some (.cells (cc x.1.2).toArray 57 (0, 0)) ∧ a' = { tmps := #[ptr g, Value.agg #[Value.slice A n c, Value.slice B k c2], Value.pointer (some { block := w.heap.size, off := 0 }), Value.pointer (some { block := w.heap.size + 1, off := 0 }), Value.pointer (some { block := w.heap.size + 1 + 1, off := 0 }), undef, u6, u7, u8, undef, Value.pointer (some { block := Bx, off := 0 }), undef, ptr g, Value.slice (some { block := q1, off := 0 }) (tableF ps).length k1, Value.bool false, ptr g, ptr g, ptr g2, Value.pointer (some { block := w.heap.size + 1, off := 1 }), Value.slice B k c2, Value.int IntKind.i64 (k : Int), Value.int IntKind.i64 (k : Int), Value.bool false, u23, u24, u25, u26, u27, u28, u29, u30, u31, u32, u33, u34, Value.pointer (some { block := w.heap.size + 1, off := 0 }), Value.slice A n c, Value.func (Fn.func 91) #[] #[Value.pointer (some { block := w9.heap.size, off := 0 })], Value.int IntKind.i64 x.1.1, Value.agg (cc x.1.2).toArray, undef, undef, undef, undef, undef, undef], defers := [] })
        (fun x a' _ W W' row h hg hr => by
          obtain ⟨Bx, h1, h2⟩ := h
          exact ⟨Bx, ((Spare.others hg (fun r e => (hr r e).2)).block _ _ _ h1 (by decide)).trans h1, h2⟩) ?assign ?body ?done ?stop
      case assign =>
        intro l pre x W K hI hK
        have hok : okAgg (cc x.1.2).toArray 37 := cc_ok ((Y.out.1.arg.ok x.1.2 x.2).c.p)
        have hokz := cc_ok (m := zm) zeroPt_ok
        have Z := Lib.hid hI
        clear hI
        gi_wp2
        have sl := slot_self W (.cells (cc zm).toArray 57) (cc x.1.2).toArray
        obtain ⟨_, ⟨Pj, hBj, _⟩, hltj⟩ := Z.out
        refine hK _ _ ((Below.keeps sl).from _) (KpB.below sl hltj (fun j hj => ?_)) (Z.out.below sl) ⟨W.heap.size, both_row W (cc zm).toArray 57 (cc x.1.2).toArray, rfl⟩
        have := (Y.out.1.row j hj).1
        have := hltj
        omega
      case body =>
        rintro l pre x a' W hl hr hI ⟨Bx, hBx, rfl⟩ hlen
        obtain ⟨hok0, ⟨Pj, hB, hsep⟩, hlt0⟩ := hI
        have hX := (row_cells (hB.only.boxU S.out.2.1.kinds S.out.2.2.2.2.2.1 (by decide) (by decide)) 0).1
        have fp := S.out.2.2.2.1.soft (Soft.tb S.out.2.1 hB.only)
        have hxo := fp.arg.ok x.1.2 x.2
        have hld := ld_coin_at W ⟨Bx, 0, none⟩ x.1.2 hxo.c.p (coin_at hBx)
        have PT := put_m hB.t x.1.2 hxo (fun h0 => (fp.lock x.1.2 x.2 h0).ne_g hB.t)
        obtain ⟨rs2, q, hcq⟩ : ∃ rs2 q, putM (putsM qs (cns (backOf pre))).1 x.1.2.c = (rs2, q) := ⟨_, _, rfl⟩
        simp only [hcq] at PT
        have PT := Lib.hid PT
        have hsn := puts_snoc _ qs x.1.2.c hok0
        rw [hcq, ← backOf_snoc] at hsn
        have Z := Lib.hid (And.intro hok0 (And.intro hB (And.intro hsep (And.intro hlt0 (And.intro fp hsn)))))
        clear hok0 hB hsep hlt0 fp hcq hsn hlen hr hBx hxo hI0 ST
        by_cases hq0 : q = 0
        · have dq : (q == 0) = true := by rw [hq0]; rfl
          have dq2 : (q != 0) = false := by rw [hq0]; rfl
          gi_wp2_with (refine ⟨trivial, ?_⟩; gi_at_call 27; refine (CallsIn.inRound l (callsIn_wide.2 PT.out)).mono ?_; rintro e w3 ⟨rfl, P', hT3, hk3, ho3⟩)
          have D3 := Z.out.2.1.move ho3 hk3 hT3
          have hsn := Z.out.2.2.2.2.2
          refine ⟨(ho3.keeps Z.out.2.1.t.kinds).from _, KpB.only Z.out.2.1.t ho3 Z.out.2.2.2.1 hbg Z.out.2.2.1 Z.out.2.2.2.2.1, by rw [hsn]; exact hq0, ⟨P', ?_, sep_kept hk3 Z.out.2.2.2.1 Z.out.2.2.1⟩, Nat.lt_of_lt_of_le Z.out.2.2.2.1 ho3.size⟩
          rw [hsn]
          exact D3
        · have dq : (q == 0) = false := by simpa using hq0
          have dq2 : (q != 0) = true := by simpa using hq0
          have Z2 := Lib.hid hq0
          clear hq0
          gi_wp2_with (refine ⟨trivial, ?_⟩; gi_at_call 27; refine (CallsIn.inRound l (callsIn_wide.2 PT.out)).mono ?_; rintro e w3 ⟨rfl, P', hT3, hk3, ho3⟩; have rE := ((Z.out.2.1.move ho3 hk3 hT3).only.boxU S.out.2.1.kinds S.out.2.2.2.2.2.2.2 (by decide) (by decide)); have c0 := (row_cells rE 0).1; have e0 := (row_cells rE 0).2)
          have D3 := Z.out.2.1.move ho3 hk3 hT3
          have hsn := Z.out.2.2.2.2.2
          have s5 := Spare.set rE 0 (.int .i64 q)
          refine ⟨((ho3.keeps Z.out.2.1.t.kinds).trans (KeepsOthers.setCell _ _ _)).from _, rfl, ?_, ⟨P', rs2, D3.t.spare s5 (by decide) (by decide) (by decide) (by decide)⟩, (copy_kept S.out.2.1 S.out.2.2.2.2.1 B1.out.1.size hgl hPl D3.only).spare s5 (by decide) (by decide) (by decide) (by decide), (Only.pre S.out.1 D3.only).cellN (by show _ ≤ w.heap.size + 1 + 1; omega) _, ?_⟩
          · rw [hsn]; exact Z2.out
          · rw [hsn]
            have := heap_setCell_same _ _ 0 _ _ (.int .i64 q) rE
            simpa using this
      case done =>
        intro D ys W hD hS hI hK
        obtain ⟨hok0, ⟨Pj, hB, hsep⟩, hlt0⟩ := hI
        rw [hS, cns_reverse] at hok0 hB
        have rE := hB.only.boxU S.out.2.1.kinds S.out.2.2.2.2.2.2.2 (by decide) (by decide)
        have c0 := (row_cells rE 0).1
        have e0 := (row_cells rE 0).2
        have hr : backM ps (cns hs) xs = ((putsM qs (cns hs).reverse).1, 0) := backM_done X.out.1 (by rw [← hok0])
        have Z := Lib.hid (And.intro hB (And.intro rE (And.intro hr hK)))
        clear hok0 hB hsep hlt0 rE hr hK hI0 ST hS
        go_wp2_with (fail)
        have hDE : D ≠ w.heap.size + 1 + 1 := by have := hHD.out; omega
        have hDw : w.heap.size ≤ D := by have := hHD.out; omega
        have s5 := Spare.set Z.out.2.1 0 (.int .i64 0)
        have hK2 := (Below.heap_setCell W ⟨w.heap.size + 1 + 1, 0, none⟩ (.int .i64 0) D hDE).trans Z.out.2.2.2
        have g6 := grownBy_putObj' (W.setCell ⟨w.heap.size + 1 + 1, 0, none⟩ (.int .i64 0)) D (.deferred none)
        have s6 := Spare.others g6 (fun r e => by cases e; exact ⟨_, hK2, rfl⟩)
        refine bodyM_ret (leavesM_mark hK2 (back_good Try.results16 ((Z.out.1.t.spare s5 (by decide) (by decide) (by decide) (by decide)).spare s6 (by decide) (by decide) (by decide) (by decide)) (Z.out.1.kp.pre S.out.1) (((Only.pre S.out.1 Z.out.1.only).cellN (by show _ ≤ w.heap.size + 1 + 1; omega) _).more g6 (fun k e => by cases e; exact hDw)) ?_ Z.out.2.2.1 rfl))
        have := heap_setCell_same _ _ 0 _ _ (.int .i64 0) Z.out.2.1
        exact (s6.block _ _ _ this (by decide)).trans (by simpa using this)
      case stop =>
        intro D cd pre W hD hS hx hK
        obtain ⟨rfl, h1, ⟨Pj, qj, h2⟩, h3, h4, h5⟩ := hx
        obtain ⟨rest, hrest⟩ := hS
        have hpm : putsM qs (cns hs).reverse = putsM qs (cns (backOf pre)) := by
          rw [← cns_reverse, ← hrest, cns_append]
          exact puts_more _ _ qs h1
        have hr : backM ps (cns hs) xs = (ps, (putsM qs (cns (backOf pre))).2) := (backM_put X.out.1 (by rw [hpm]; exact h1)).trans (by rw [hpm])
        generalize (putsM qs (cns (backOf pre))).2 = q at *
        have Z := Lib.hid (And.intro h1 (And.intro h2 (And.intro h3 (And.intro h4 (And.intro h5 (And.intro hr hK))))))
        clear h1 h2 h3 h4 h5 hr hK hpm hrest hI0 ST
        refine wpIn_wide.2 ?_
        go_wp2_with (fail)
        have hDE : D ≠ w.heap.size + 1 + 1 := by have := hHD.out; omega
        have hDw : w.heap.size ≤ D := by have := hHD.out; omega
        have g6 := grownBy_putObj' W D (.deferred none)
        have s6 := Spare.others g6 (fun r e => by cases e; exact ⟨_, Z.out.2.2.2.2.2.2, rfl⟩)
        exact bodyM_ret (leavesM_mark Z.out.2.2.2.2.2.2 (back_fail Try.results16 B1.out.1.size hbase (Z.out.2.2.1.spare s6 (by decide) (by decide) (by decide) (by decide)) (Z.out.2.1.spare s6 (by decide) (by decide) (by decide) (by decide)) (Z.out.2.2.2.1.more g6 (fun k e => by cases e; exact hDw)) ((s6.block _ _ _ Z.out.2.2.2.2.1 (by decide)).trans Z.out.2.2.2.2.1) Z.out.1 Z.out.2.2.2.2.2.1 rfl))
end Go.Proofs.Ytofclanljhfkiaa
