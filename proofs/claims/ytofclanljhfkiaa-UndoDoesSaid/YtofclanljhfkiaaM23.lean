/- Joined texts: UnA, UnB, UnC, UnD. -/
import Derived.Test.YtofclanljhfkiaaM13
import Derived.Test.YtofclanljhfkiaaM3
import Derived.Test.YtofclanljhfkiaaM22
import Derived.Defers
/- Undo: Do and Back on a table that is off. -/
namespace Go.Proofs.Ytofclanljhfkiaa
open Go.RowKit Go.Proofs En Co
set_option linter.unusedVariables false
set_option linter.unusedSimpArgs false
set_option maxRecDepth 20000
attribute [local go_sem] nil_bytes nil_coins

theorem res_cc {P : Program} {fn : Func} {tmps : Array Value} {w : World} {c i : Tmp} {T U : TypeId} {v u : Value} {ad bd : Addr} (hf : fn.results = #[.cell c T, .cell i U]) (hc : tmps.getD c undef = .pointer (some ad)) (hl : (loadVar T ad).run P w = .ok v w) (hi : tmps.getD i undef = .pointer (some bd)) (hk : (loadVar U bd).run P w = .ok u w) :
    (results fn tmps).run P w = .ok (.tuple #[v, u]) w := by
  have hc' := hc
  simp at hc'
  have hi' := hi
  simp at hi'
  simp only [results, hf, Sem.run_bind]
  simp [List.mapM_cons, Sem.run_bind, hc', hi', asAddr, hl, hk]
set_option maxRecDepth 20000 in
set_option maxHeartbeats 1000000 in
theorem doN_any (w : World) (pv : Value) (h : Off w pv) (u v : Value) :
    Calls Try.prog 15 #[pv, u, v] w fun e w' => e = .returned (.tuple #[.agg #[.slice none 0 0, .slice none 0 0], .int .i64 1]) ∧ Below w.heap.size w w' := by
  obtain ⟨f0, g0⟩ := two_box w (.cells #[.slice none 0 0, .slice none 0 0] 25) (.cells #[.int .i64 0] 30)
  have b0 : Below w.heap.size w ((w.alloc (.cells #[.slice none 0 0, .slice none 0 0] 25)).alloc (.cells #[.int .i64 0] 30)) := belA ((Below.refl _ _).alloc (Nat.le_refl _) _) _ (Nat.le_refl _)
  have C := Lib.hid (bytesN_any _ pv (h.below b0))
  have F := Lib.hid (And.intro f0 (And.intro g0 b0))
  clear h f0 g0 b0
  go_enter Try.func15, Try.ntmps15
  go_wp2_with (fail)
  refine C.out.mono ?_
  rintro e w1 ⟨rfl, hb1⟩
  have f1 := kept F.out.1 hb1
  have g1 := kept F.out.2.1 hb1
  have c0 := (row_cells f1 0).1
  have c1 := (row_cells f1 1).1
  have e0 := (row_cells f1 0).2
  have e1 := (row_cells f1 1).2
  have d0 := (row_cells g1 0).1
  have h0 := (row_cells g1 0).2
  have B := Lib.hid (bThen F.out.2.2 hb1)
  have R := Lib.hid (And.intro f1 g1)
  clear f1 g1 hb1
  go_wp2_with (fail)
  refine bodyPost_ret (res_cc Try.results15 rfl (v := .agg #[.slice none 0 0, .slice none 0 0]) ?_ rfl (u := .int .i64 1) ?_) rfl ⟨rfl, ?_⟩
  · have q1 := heap_setCell_same _ _ 0 _ _ (.slice none 0 0) R.out.1
    have q2 := heap_setCell_same _ _ 1 _ _ (.slice none 0 0) q1
    have q3 := (Below.heap_setCell _ ⟨w.heap.size + 1, 0, none⟩ (.int .i64 1) w.heap.size (by show w.heap.size ≠ w.heap.size + 1; omega)).trans q2
    refine run_loadVar_at (P := Try.prog) _ ⟨w.heap.size, 0, none⟩ 25 [.slice none 0 0, .slice none 0 0] _ Try.underlying25 rfl (by kernel_rfl) (fun j v hv => ?_)
    match j, hv with
    | 0, hv => exact (row_cells q3 0).1.trans (by simpa using hv)
    | 1, hv => exact (row_cells q3 1).1.trans (by simpa using hv)
    | j + 2, hv => simp at hv
  · have q1 := (Below.heap_setCell w1 ⟨w.heap.size, 0, none⟩ (.slice none 0 0) (w.heap.size + 1) (by show w.heap.size + 1 ≠ w.heap.size; omega)).trans R.out.2
    have q2 := (Below.heap_setCell _ ⟨w.heap.size, 1, none⟩ (.slice none 0 0) (w.heap.size + 1) (by show w.heap.size + 1 ≠ w.heap.size; omega)).trans q1
    have q3 := heap_setCell_same _ _ 0 _ _ (.int .i64 1) q2
    have c := (row_cells q3 0).1
    have c2 : ((((w1.setCell ⟨w.heap.size, 0, none⟩ (.slice none 0 0)).setCell ⟨w.heap.size, 1, none⟩ (.slice none 0 0)).setCell ⟨w.heap.size + 1, 0, none⟩ (.int .i64 1))).cell? ⟨w.heap.size + 1, 0, none⟩ = some (.int .i64 1) := c.trans (by simp)
    clear c q1 q2 q3
    unfold loadVar
    simp [Try.underlying30, load, Sem.run_bind, Result.andThen]
    show (Sem.run Try.prog (load ⟨w.heap.size + 1, 0, none⟩) _) = _
    rw [run_load, c2]
  · exact ((B.out.setCell (Nat.le_refl _) _).setCell (Nat.le_refl _) _).setCell (by show _ ≤ w.heap.size + 1; omega) _
end Go.Proofs.Ytofclanljhfkiaa
/- Undo, in plain Lean: what Do and Back make of a table's pages. -/
namespace Go.Proofs.Ytofclanljhfkiaa
open Go.RowKit Go.Proofs En Co
set_option linter.unusedVariables false
set_option linter.unusedSimpArgs false
set_option maxRecDepth 20000

/-- coins are taken, one behind the other: the pages, the coins, an error -/
def takesM : List (List Cn) → List Pt → List (List Cn) × List Cn × Int
  | ps, [] => (ps, [], 0)
  | ps, p :: r => if (takeM ps p).2.2 = 0 then ((takesM (takeM ps p).1 r).1, (takeM ps p).2.1 :: (takesM (takeM ps p).1 r).2.1, (takesM (takeM ps p).1 r).2.2) else ((takeM ps p).1, [], (takeM ps p).2.2)
/-- coins are put: the pages, an error -/
def putsM : List (List Cn) → List Cn → List (List Cn) × Int
  | ps, [] => (ps, 0)
  | ps, c :: r => if (putM ps c).2 = 0 then putsM (putM ps c).1 r else putM ps c
/-- Do: the pages, what is spent, what is made, an error -/
def doM (ps : List (List Cn)) (xs : List Pt) (ys : List Cn) : List (List Cn) × List Cn × List Pt × Int :=
  if (takesM ps xs).2.2 = 0 then (if (putsM (takesM ps xs).1 ys).2 = 0 then ((putsM (takesM ps xs).1 ys).1, (takesM ps xs).2.1, ys.map Cn.p, 0) else (ps, [], [], (putsM (takesM ps xs).1 ys).2)) else (ps, [], [], (takesM ps xs).2.2)
/-- Back: the pages, an error -/
def backM (ps : List (List Cn)) (cs : List Cn) (xs : List Pt) : List (List Cn) × Int :=
  if (takesM ps xs).2.2 = 0 then (if (putsM (takesM ps xs).1 cs.reverse).2 = 0 then ((putsM (takesM ps xs).1 cs.reverse).1, 0) else (ps, (putsM (takesM ps xs).1 cs.reverse).2)) else (ps, (takesM ps xs).2.2)

theorem takesM_cons (ps : List (List Cn)) (p : Pt) (r : List Pt) : takesM ps (p :: r) = if (takeM ps p).2.2 = 0 then ((takesM (takeM ps p).1 r).1, (takeM ps p).2.1 :: (takesM (takeM ps p).1 r).2.1, (takesM (takeM ps p).1 r).2.2) else ((takeM ps p).1, [], (takeM ps p).2.2) := rfl
theorem takesM_nil (ps : List (List Cn)) : takesM ps [] = (ps, [], 0) := rfl
theorem putsM_cons (ps : List (List Cn)) (c : Cn) (r : List Cn) : putsM ps (c :: r) = if (putM ps c).2 = 0 then putsM (putM ps c).1 r else putM ps c := rfl
theorem putsM_nil (ps : List (List Cn)) : putsM ps [] = (ps, 0) := rfl
theorem take_yes {ps : List (List Cn)} {p : Pt} (h : (takeM ps p).2.2 = 0) : ∃ c, findF ps p = some c ∧ takeM ps p = (takeF2 ps p, c, 0) := by
  cases hf : findF ps p with
  | none => rw [takeM_none hf] at h; exact absurd h (show ¬ (6 : Int) = 0 by decide)
  | some c => exact ⟨c, rfl, takeM_some hf⟩
theorem take_less {ps : List (List Cn)} {p : Pt} (hr : Rise (ps.flatten.map Cn.p)) (h : (takeM ps p).2.2 = 0) : (takeM ps p).1.flatten.length + 1 = ps.flatten.length := by
  obtain ⟨c, hf, e⟩ := take_yes h
  have := (takeF2_perm hr hf).length_eq
  rw [e]
  simpa using this
theorem take_point {ps : List (List Cn)} {p : Pt} (h : (takeM ps p).2.2 = 0) : (takeM ps p).2.1.p = p := by
  obtain ⟨c, hf, e⟩ := take_yes h
  rw [e]
  exact (findF_some hf).2
theorem take_sub (ps : List (List Cn)) (p : Pt) : ∀ c ∈ (takeM ps p).1.flatten, c ∈ ps.flatten := by
  intro c hc
  cases hf : findF ps p with
  | none => rwa [takeM_none hf] at hc
  | some d =>
    rw [takeM_some hf] at hc
    have hc : c ∈ (takeF2 ps p).flatten := hc
    rw [lostF_flat] at hc
    exact (List.mem_filter.1 hc).1
theorem take_gone {ps : List (List Cn)} {p : Pt} (h : (takeM ps p).2.2 = 0) : ∀ c ∈ (takeM ps p).1.flatten, c.p ≠ p := by
  obtain ⟨d, hf, e⟩ := take_yes h
  intro c hc
  rw [e] at hc
  have hc : c ∈ (takeF2 ps p).flatten := hc
  rw [lostF_flat] at hc
  simpa using (List.mem_filter.1 hc).2
theorem put_yes {ps : List (List Cn)} {c : Cn} (h : (putM ps c).2 = 0) : mayO c.v c.l = true ∧ findF ps c.p = none ∧ putM ps c = (putF2 ps c, 0) := by
  cases hm : mayO c.v c.l with
  | false => rw [putM_arg hm] at h; exact absurd h (show ¬ (2 : Int) = 0 by decide)
  | true =>
    cases hf : findF ps c.p with
    | some d => rw [putM_twice hm hf] at h; exact absurd h (show ¬ (7 : Int) = 0 by decide)
    | none =>
      by_cases hl : 2000 ≤ ps.flatten.length
      · rw [putM_limit hm hf hl] at h; exact absurd h (show ¬ (3 : Int) = 0 by decide)
      · exact ⟨rfl, rfl, putM_ok hm hf (by omega)⟩
theorem put_more {ps : List (List Cn)} {c : Cn} (h : (putM ps c).2 = 0) : (putM ps c).1.flatten.length = ps.flatten.length + 1 := by
  obtain ⟨_, _, e⟩ := put_yes h
  rw [e]
  simpa using (putF2_perm ps c).length_eq

/-- the first k are taken -/
structure TakeI (ps : List (List Cn)) (xs : List Pt) (k : Nat) (qs : List (List Cn)) (cs : List Cn) : Prop where
  eq : takesM ps xs = ((takesM qs (xs.drop k)).1, cs ++ (takesM qs (xs.drop k)).2.1, (takesM qs (xs.drop k)).2.2)
  len : qs.flatten.length + k = ps.flatten.length
  num : cs.length = k
  apart : ∀ c ∈ cs, ∀ d ∈ qs.flatten, d.p ≠ c.p
theorem TakeI.start (ps : List (List Cn)) (xs : List Pt) : TakeI ps xs 0 ps [] := ⟨by simp, by simp, rfl, fun c h => by cases h⟩
section
variable {ps qs : List (List Cn)} {xs : List Pt} {k : Nat} {cs : List Cn} {p : Pt}
theorem drop_at {α : Type} {l : List α} {k : Nat} {x : α} (h : l[k]? = some x) : l.drop k = x :: l.drop (k + 1) := by
  obtain ⟨hk, e⟩ := List.getElem?_eq_some_iff.1 h
  rw [List.drop_eq_getElem_cons hk, e]
theorem TakeI.next (h : TakeI ps xs k qs cs) (hr : Rise (qs.flatten.map Cn.p)) (hp : xs[k]? = some p) (he : (takeM qs p).2.2 = 0) : TakeI ps xs (k + 1) (takeM qs p).1 (cs ++ [(takeM qs p).2.1]) := by
  refine ⟨?_, ?_, by simp [h.num], ?_⟩
  · have e := h.eq
    rw [drop_at hp, takesM_cons, if_pos he] at e
    rw [e, List.append_assoc]
    rfl
  · have := take_less hr he
    have := h.len
    omega
  · intro c hc d hd
    rcases List.mem_append.1 hc with hc | hc
    · exact h.apart c hc d (take_sub qs p d hd)
    · simp only [List.mem_singleton] at hc
      subst hc
      rw [take_point he]
      exact take_gone he d hd
theorem TakeI.stop (h : TakeI ps xs k qs cs) (hp : xs[k]? = some p) (he : (takeM qs p).2.2 ≠ 0) : (takesM ps xs).2.2 = (takeM qs p).2.2 := by
  have e := h.eq
  rw [drop_at hp] at e
  rw [e]
  show (takesM qs (p :: _)).2.2 = _
  rw [takesM_cons, if_neg he]
theorem TakeI.done (h : TakeI ps xs k qs cs) (hk : xs.length = k) : takesM ps xs = (qs, cs, 0) := by
  have e := h.eq
  rw [List.drop_of_length_le (by omega)] at e
  rw [e, takesM_nil, List.append_nil]
/-- the first k are put -/
structure PutI (ps : List (List Cn)) (ys : List Cn) (k : Nat) (qs : List (List Cn)) : Prop where
  eq : putsM ps ys = putsM qs (ys.drop k)
  len : ps.flatten.length + k = qs.flatten.length
theorem PutI.start (ps : List (List Cn)) (ys : List Cn) : PutI ps ys 0 ps := ⟨by simp, by simp⟩
theorem PutI.next {ys : List Cn} {c : Cn} (h : PutI ps ys k qs) (hp : ys[k]? = some c) (he : (putM qs c).2 = 0) : PutI ps ys (k + 1) (putM qs c).1 := by
  refine ⟨?_, ?_⟩
  · have e := h.eq
    rw [drop_at hp] at e
    rw [e, putsM_cons, if_pos he]
  · have := put_more he
    have := h.len
    omega
theorem PutI.stop {ys : List Cn} {c : Cn} (h : PutI ps ys k qs) (hp : ys[k]? = some c) (he : (putM qs c).2 ≠ 0) : putsM ps ys = putM qs c := by
  rw [h.eq, drop_at hp, putsM_cons, if_neg he]
theorem PutI.done {ys : List Cn} (h : PutI ps ys k qs) (hk : ys.length = k) : putsM ps ys = (qs, 0) := by
  rw [h.eq, List.drop_of_length_le (by omega)]
  rfl
theorem doM_take {ys : List Cn} (h : (takesM ps xs).2.2 ≠ 0) : doM ps xs ys = (ps, [], [], (takesM ps xs).2.2) := by unfold doM; rw [if_neg h]
theorem doM_put {ys : List Cn} (h : takesM ps xs = (qs, cs, 0)) (h2 : (putsM qs ys).2 ≠ 0) : doM ps xs ys = (ps, [], [], (putsM qs ys).2) := by
  unfold doM
  rw [h, if_pos rfl, if_neg h2]
theorem doM_done {ys : List Cn} {rs : List (List Cn)} (h : takesM ps xs = (qs, cs, 0)) (h2 : putsM qs ys = (rs, 0)) : doM ps xs ys = (rs, cs, ys.map Cn.p, 0) := by
  unfold doM
  rw [h, if_pos rfl]
  show (if (putsM qs ys).2 = 0 then _ else _) = _
  rw [h2, if_pos rfl]
theorem backM_take {ds : List Cn} (h : (takesM ps xs).2.2 ≠ 0) : backM ps ds xs = (ps, (takesM ps xs).2.2) := by unfold backM; rw [if_neg h]
theorem backM_put {ds : List Cn} (h : takesM ps xs = (qs, cs, 0)) (h2 : (putsM qs ds.reverse).2 ≠ 0) : backM ps ds xs = (ps, (putsM qs ds.reverse).2) := by
  unfold backM
  rw [h, if_pos rfl, if_neg h2]
theorem backM_done {ds : List Cn} {rs : List (List Cn)} (h : takesM ps xs = (qs, cs, 0)) (h2 : putsM qs ds.reverse = (rs, 0)) : backM ps ds xs = (rs, 0) := by
  unfold backM
  rw [h, if_pos rfl]
  show (if (putsM qs ds.reverse).2 = 0 then _ else _) = _
  rw [h2, if_pos rfl]
end
end Go.Proofs.Ytofclanljhfkiaa
/- Undo, in memory: changes to one table joined; points in a row; coins appended beside a table; the deferred call. -/
namespace Go.Proofs.Ytofclanljhfkiaa
open Go.RowKit Go.Proofs En Co
set_option linter.unusedVariables false
set_option linter.unusedSimpArgs false
set_option maxRecDepth 20000

section
variable {w w1 w2 w' : World} {base b g : Nat} {P P1 P2 : Option Addr} {ps : List (List Cn)}
theorem Kept.chain (k1 : Kept w P P1) (k2 : Kept w1 P1 P2) (hs : w.heap.size ≤ w1.heap.size) : Kept w P P2 := by
  rcases k2 with rfl | k2
  · exact k1
  · exact .inr fun j hj => Nat.le_trans hs (k2 j hj)
theorem Only.chain (h1 : Only w w1 g P) (k : Kept w P P1) (h2 : Only w1 w2 g P1) : Only w w2 g P :=
  ⟨h2.os.trans h1.os, h2.tape.trans h1.tape, h2.output.trans h1.output, Nat.le_trans h1.size h2.size, fun j hj hg hP => (h2.block j (Nat.lt_of_lt_of_le hj h1.size) hg (fun e => by
    rcases k with rfl | k
    · exact hP e
    · have := k j e; omega)).trans (h1.block j hj hg hP)⟩
theorem Only.more (h : Only w w1 g P) {row : Option Nat} (hg : w1.grownBy w2 row) (hr : ∀ k, row = some k → w.heap.size ≤ k) : Only w w2 g P :=
  ⟨hg.os.trans h.os, hg.tape.trans h.tape, hg.output.trans h.output, Nat.le_trans h.size hg.size, fun j hj h1 h2 => (hg.block j (Nat.lt_of_lt_of_le hj h.size) (fun e => by have := hr j e.symm; omega)).trans (h.block j hj h1 h2)⟩
/-- coins are appended to coins that the table has no longer: the table stays -/
theorem Tb.appended (h : Tb w base g P ps) {A : Option Addr} {n c : Nat} {hs : List Cm} (ho : OwnP w b A n c hs) (h0 : n = 0 → A = none) (hap : ∀ m ∈ hs, ∀ d ∈ ps.flatten, d.p ≠ m.c.p) (hgw : w.grownBy w' (blk A)) : Tb w' base g P ps := by
  obtain ⟨np, cp, gs, hT, rfl⟩ := h
  have hkd := hT.kinds
  refine ⟨np, cp, gs, ⟨hT.low, ?_, ?_, fun x hx => ⟨⟨?_, fun m hm => ⟨((hT.own x hx).1.ok m hm).1, ?_, ((hT.own x hx).1.ok m hm).2.2⟩, (hT.own x hx).1.len⟩, (hT.own x hx).2⟩, hT.up, hT.most⟩, rfl⟩
  · exact (hgw.block g (Array.getElem?_eq_some_iff.1 hT.row).1 (fun e => Own.ne_block ho.row hT.row (by decide) e.symm)).trans hT.row
  · refine Own.grown hT.pages hgw fun k hk e => ?_
    obtain ⟨xs, hxs⟩ := hkd.2 k hk
    exact Own.ne_block ho.row hxs (by decide) e
  · have hox := (hT.own x hx).1
    refine Own.grown hox.row hgw fun k hk e => ?_
    rcases Nat.eq_zero_or_pos n with hn | hn
    · rw [h0 hn] at e; cases e
    · rcases hox.row.2 with ⟨hA, _⟩ | ⟨g1, cur1, hA, _, hh1, _, _, _, ht1, _⟩
      · rw [hA] at hk; cases hk
      · rcases ho.row.2 with ⟨hB, _⟩ | ⟨g2, cur2, hB, _, hh2, _, _, _, ht2, _⟩
        · rw [hB] at e; cases e
        · rw [hA] at hk
          rw [hB] at e
          have e1 : g1 = k := by simpa [blk] using hk
          have e2 : g2 = k := by simpa [blk] using e
          subst e1
          subst e2
          rw [hh1] at hh2
          have ec : cur1 = cur2 := by
            injection hh2 with hh2
            injection hh2
          subst ec
          have l1 := hox.len
          have l2 := ho.len
          have hxp := (hT.own x hx).2.1
          obtain ⟨m1, r1, hm1⟩ : ∃ m r, x.hs = m :: r := by
            cases hh : x.hs with
            | nil => rw [hh] at l1; simp at l1; omega
            | cons m r => exact ⟨m, r, rfl⟩
          obtain ⟨m2, r2, hm2⟩ : ∃ m r, hs = m :: r := by
            cases hh : hs with
            | nil => rw [hh] at l2; simp at l2; omega
            | cons m r => exact ⟨m, r, rfl⟩
          have k1 := (hox.ok m1 (by rw [hm1]; exact List.mem_cons_self ..)).1.p
          have k2 := (ho.ok m2 (by rw [hm2]; exact List.mem_cons_self ..)).1.p
          have f1 : cur1.toList.take 37 = cc m1 := by
            have := congrArg (List.take 37) ht1
            rw [List.take_take, Nat.min_eq_left (by omega), hm1, pcs_cons, List.take_left' (cc_length k1)] at this
            exact this
          have f2 : cur1.toList.take 37 = cc m2 := by
            have := congrArg (List.take 37) ht2
            rw [List.take_take, Nat.min_eq_left (by omega), hm2, pcs_cons, List.take_left' (cc_length k2)] at this
            exact this
          have f3 : pc m1.c.p = pc m2.c.p := by
            have := congrArg (List.take 34) (f1.symm.trans f2)
            unfold cc at this
            rw [List.take_left' (pc_length k1), List.take_left' (pc_length k2)] at this
            exact this
          refine hap m2 (by rw [hm2]; exact List.mem_cons_self ..) m1.c ?_ (pc_inj k1 k2 (by rw [f3]))
          rw [pgsOf_flat]
          unfold cns allC
          exact List.mem_map.2 ⟨m1, List.mem_flatMap.2 ⟨x, hx, by rw [hm1]; exact List.mem_cons_self ..⟩, rfl⟩
  · exact OwnN.grown ((hT.own x hx).1.ok m hm).2.1 hgw (ho.ne ((hT.own x hx).1.ok m hm).2.1)
/-- a table is put back: its struct is the copy's -/
theorem Tb.restore {k : Nat} (h : Tb w b k P2 ps) (hb : base ≤ b) (hg : base ≤ g) {x y z : Value} {n c : Nat} (hrow : w.heap[k]? = some (.cells #[.bool true, .slice P2 n c, .int .i64 ps.flatten.length] 29 (0, 0))) (hold : w.heap[g]? = some (.cells #[x, y, z] 29 (0, 0))) :
    Tb (((w.setCell ⟨g, 0, none⟩ (.bool true)).setCell ⟨g, 1, none⟩ (.slice P2 n c)).setCell ⟨g, 2, none⟩ (.int .i64 ps.flatten.length)) base g P2 ps := by
  obtain ⟨np, cp, gs, hT, rfl⟩ := h
  have e := hT.row
  rw [hrow] at e
  injection e with e
  injection e with e _ _
  have e1 : np = n ∧ cp = c := by
    have := congrArg (·[1]?) e
    simp at this
    exact ⟨this.1.symm, this.2.symm⟩
  obtain ⟨rfl, rfl⟩ := e1
  rw [pgsOf_flat, cns_length] at *
  have hk : ∀ j, j ≠ g → (((w.setCell ⟨g, 0, none⟩ (.bool true)).setCell ⟨g, 1, none⟩ (.slice P2 np cp)).setCell ⟨g, 2, none⟩ (.int .i64 (allC gs).length)).heap[j]? = w.heap[j]? := fun j hj => ((Below.heap_setCell _ _ _ _ (show j ≠ g from hj)).trans (Below.heap_setCell _ _ _ _ (show j ≠ g from hj))).trans (Below.heap_setCell _ _ _ _ (show j ≠ g from hj))
  refine ⟨np, cp, gs, ⟨hg, ?_, ?_, fun x' hx => ⟨⟨?_, fun m hm => ⟨((hT.own x' hx).1.ok m hm).1, ?_, ((hT.own x' hx).1.ok m hm).2.2⟩, (hT.own x' hx).1.len⟩, (hT.own x' hx).2⟩, hT.up, hT.most⟩, rfl⟩
  · have q1 := heap_setCell_same _ _ 0 _ _ (.bool true) hold
    have q2 := heap_setCell_same _ _ 1 _ _ (.slice P2 np cp) q1
    have q3 := heap_setCell_same _ _ 2 _ _ (.int .i64 (allC gs).length) q2
    simpa using q3
  · exact Own.mono (Own.keep hT.pages fun j hj => hk j (fun e => Own.ne_block hT.pages hold (by decide) (by rw [hj, e]))) hb
  · exact Own.mono (Own.keep (hT.own x' hx).1.row fun j hj => hk j (fun e => Own.ne_block (hT.own x' hx).1.row hold (by decide) (by rw [hj, e]))) hb
  · exact OwnN.mono (Own.keep ((hT.own x' hx).1.ok m hm).2.1 fun j hj => hk j (fun e => Own.ne_block ((hT.own x' hx).1.ok m hm).2.1 hold (by decide) (by rw [hj, e]))) hb
end

/-! ### points in a row -/
def pps (xs : List Pt) : List Value := xs.flatMap pc
theorem pps_append (xs ys : List Pt) : pps (xs ++ ys) = pps xs ++ pps ys := by unfold pps; rw [List.flatMap_append]
theorem pps_one {xs : List Pt} : ∀ u ∈ pps xs, u.oneCell' = true := by
  intro u hu
  unfold pps at hu
  obtain ⟨p, _, hm⟩ := List.mem_flatMap.1 hu
  exact cc_one ⟨⟨p, 0, false, []⟩, none, 0⟩ u (by unfold cc; exact List.mem_append_left _ hm)
/-- points that a function is handed, out of any table's reach -/
structure FirmQ (w : World) (base : Nat) (B : Option Addr) (n c : Nat) (xs : List Pt) : Prop where
  rd : Rd w 34 B n (pps xs)
  ok : ∀ p ∈ xs, p.ok
  len : xs.length = n
  cap : n ≤ c
  max : c ≤ maxLen
  row : FirmO w base B
section
variable {w w' : World} {base g n c : Nat} {P B : Option Addr} {xs : List Pt}
theorem FirmQ.below (h : FirmQ w base B n c xs) (hb : Below w.heap.size w w') : FirmQ w' base B n c xs := ⟨h.rd.below hb, h.ok, h.len, h.cap, h.max, h.row.below hb⟩
theorem FirmQ.soft (h : FirmQ w base B n c xs) (hs : Soft w w' base g P) : FirmQ w' base B n c xs := ⟨Rd.soft h.rd (fun _ => h.row) hs, h.ok, h.len, h.cap, h.max, h.row.soft hs⟩
theorem FirmQ.at_ (h : FirmQ w base B n c xs) {k : Nat} (hk : k < n) : ∃ ad p, B = some ad ∧ xs[k]? = some p ∧ p.ok ∧ ad.block < w.heap.size ∧ ∀ j v, (pc p)[j]? = some v → w.cell? ((ad.add (k * 34)).add j) = some v := by
  obtain ⟨ad, e, hb, hc⟩ := h.rd.at_ hk
  have hl := h.len
  have hx : xs[k]? = some xs[k] := List.getElem?_eq_getElem (by omega)
  have hlen : ∀ x ∈ xs, (pc x).length = 34 := fun x hx => pc_length (h.ok x hx)
  refine ⟨ad, xs[k], e, hx, h.ok _ (List.getElem_mem ..), hb, fun j v hv => ?_⟩
  have hj := (List.getElem?_eq_some_iff.1 hv).1
  rw [hlen _ (List.getElem_mem _)] at hj
  rw [add_add, hc j hj]
  unfold pps
  rw [flat_get hlen hx hj]
  exact hv
theorem FirmQ.nil (w : World) (base : Nat) : FirmQ w base none 0 0 [] := ⟨Rd.nil _ _ _, fun _ h => (by cases h), rfl, Nat.le_refl _, Nat.zero_le _, FirmO.none _ _⟩
end
/-- points of one's own -/
structure OwnQ (w : World) (base : Nat) (B : Option Addr) (n c : Nat) (xs : List Pt) : Prop where
  row : Own w base 54 34 (fun _ => True) B n c (pps xs)
  ok : ∀ p ∈ xs, p.ok
  len : xs.length = n
section
variable {w w' : World} {base b n c : Nat} {B : Option Addr} {xs : List Pt}
theorem OwnQ.nil (w : World) (base : Nat) : OwnQ w base none 0 0 [] := ⟨Own.nil _ _ _ _ _, fun _ h => (by cases h), rfl⟩
theorem OwnQ.below (h : OwnQ w base B n c xs) (hb : Below w.heap.size w w') : OwnQ w' base B n c xs := ⟨h.row.below hb, h.ok, h.len⟩
theorem OwnQ.mono (h : OwnQ w base B n c xs) (hb : b ≤ base) : OwnQ w b B n c xs := ⟨Own.mono h.row hb, h.ok, h.len⟩
theorem OwnQ.firm (h : OwnQ w base B n c xs) (b : Nat) : FirmQ w b B n c xs := ⟨h.row.rd, h.ok, h.len, (Own.len_cap h.row).1, (Own.len_cap h.row).2, FirmO.own h.row (by decide) (by decide) (by decide)⟩
end

/-! ### the appends -/
theorem inf_point : (Try.prog.info? 54).map (fun i => (i.zero.map Value.cells, i.size, i.bytes)) = some (some (pc zeroPt).toArray, 34, 40) := by kernel_rfl
def bs_point (ps : Array (Nat × Value)) : Sem Value := Instr.buildSlice 23 1 ps
theorem bs_point_eq (ps : Array (Nat × Value)) : Instr.buildSlice 23 1 ps = bs_point ps := rfl
theorem arr34u {cs : Array Value} (h : cs.size = 34) : ∃ x0 x1 x2 x3 x4 x5 x6 x7 x8 x9 x10 x11 x12 x13 x14 x15 x16 x17 x18 x19 x20 x21 x22 x23 x24 x25 x26 x27 x28 x29 x30 x31 x32 x33 : Value, cs = #[x0, x1, x2, x3, x4, x5, x6, x7, x8, x9, x10, x11, x12, x13, x14, x15, x16, x17, x18, x19, x20, x21, x22, x23, x24, x25, x26, x27, x28, x29, x30, x31, x32, x33] := by
  obtain ⟨l⟩ := cs
  replace h : l.length = 34 := h
  rcases l with _ | ⟨x0, l⟩
  · simp at h
  replace h : l.length = 33 := by simpa using h
  rcases l with _ | ⟨x1, l⟩
  · simp at h
  replace h : l.length = 32 := by simpa using h
  rcases l with _ | ⟨x2, l⟩
  · simp at h
  replace h : l.length = 31 := by simpa using h
  rcases l with _ | ⟨x3, l⟩
  · simp at h
  replace h : l.length = 30 := by simpa using h
  rcases l with _ | ⟨x4, l⟩
  · simp at h
  replace h : l.length = 29 := by simpa using h
  rcases l with _ | ⟨x5, l⟩
  · simp at h
  replace h : l.length = 28 := by simpa using h
  rcases l with _ | ⟨x6, l⟩
  · simp at h
  replace h : l.length = 27 := by simpa using h
  rcases l with _ | ⟨x7, l⟩
  · simp at h
  replace h : l.length = 26 := by simpa using h
  rcases l with _ | ⟨x8, l⟩
  · simp at h
  replace h : l.length = 25 := by simpa using h
  rcases l with _ | ⟨x9, l⟩
  · simp at h
  replace h : l.length = 24 := by simpa using h
  rcases l with _ | ⟨x10, l⟩
  · simp at h
  replace h : l.length = 23 := by simpa using h
  rcases l with _ | ⟨x11, l⟩
  · simp at h
  replace h : l.length = 22 := by simpa using h
  rcases l with _ | ⟨x12, l⟩
  · simp at h
  replace h : l.length = 21 := by simpa using h
  rcases l with _ | ⟨x13, l⟩
  · simp at h
  replace h : l.length = 20 := by simpa using h
  rcases l with _ | ⟨x14, l⟩
  · simp at h
  replace h : l.length = 19 := by simpa using h
  rcases l with _ | ⟨x15, l⟩
  · simp at h
  replace h : l.length = 18 := by simpa using h
  rcases l with _ | ⟨x16, l⟩
  · simp at h
  replace h : l.length = 17 := by simpa using h
  rcases l with _ | ⟨x17, l⟩
  · simp at h
  replace h : l.length = 16 := by simpa using h
  rcases l with _ | ⟨x18, l⟩
  · simp at h
  replace h : l.length = 15 := by simpa using h
  rcases l with _ | ⟨x19, l⟩
  · simp at h
  replace h : l.length = 14 := by simpa using h
  rcases l with _ | ⟨x20, l⟩
  · simp at h
  replace h : l.length = 13 := by simpa using h
  rcases l with _ | ⟨x21, l⟩
  · simp at h
  replace h : l.length = 12 := by simpa using h
  rcases l with _ | ⟨x22, l⟩
  · simp at h
  replace h : l.length = 11 := by simpa using h
  rcases l with _ | ⟨x23, l⟩
  · simp at h
  replace h : l.length = 10 := by simpa using h
  rcases l with _ | ⟨x24, l⟩
  · simp at h
  replace h : l.length = 9 := by simpa using h
  rcases l with _ | ⟨x25, l⟩
  · simp at h
  replace h : l.length = 8 := by simpa using h
  rcases l with _ | ⟨x26, l⟩
  · simp at h
  replace h : l.length = 7 := by simpa using h
  rcases l with _ | ⟨x27, l⟩
  · simp at h
  replace h : l.length = 6 := by simpa using h
  rcases l with _ | ⟨x28, l⟩
  · simp at h
  replace h : l.length = 5 := by simpa using h
  rcases l with _ | ⟨x29, l⟩
  · simp at h
  replace h : l.length = 4 := by simpa using h
  rcases l with _ | ⟨x30, l⟩
  · simp at h
  replace h : l.length = 3 := by simpa using h
  rcases l with _ | ⟨x31, l⟩
  · simp at h
  replace h : l.length = 2 := by simpa using h
  rcases l with _ | ⟨x32, l⟩
  · simp at h
  replace h : l.length = 1 := by simpa using h
  rcases l with _ | ⟨x33, l⟩
  · simp at h
  replace h : l.length = 0 := by simpa using h
  have hl : l = [] := List.eq_nil_of_length_eq_zero h
  subst hl
  exact ⟨x0, x1, x2, x3, x4, x5, x6, x7, x8, x9, x10, x11, x12, x13, x14, x15, x16, x17, x18, x19, x20, x21, x22, x23, x24, x25, x26, x27, x28, x29, x30, x31, x32, x33, rfl⟩
theorem bs_point_run (w : World) (cs : Array Value) (hs : okAgg cs 34) : (bs_point #[(0, .agg cs)]).run Try.prog w = .ok (.slice (some ⟨w.heap.size, 0, none⟩) 1 1) (w.alloc (.cells cs 54)) := by
  obtain ⟨x0, x1, x2, x3, x4, x5, x6, x7, x8, x9, x10, x11, x12, x13, x14, x15, x16, x17, x18, x19, x20, x21, x22, x23, x24, x25, x26, x27, x28, x29, x30, x31, x32, x33, rfl⟩ := arr34u hs.1
  show (Instr.buildSlice 23 1 _).run Try.prog w = _
  kernel_rfl
theorem one_rowQ (w : World) (p : Pt) (hp : p.ok) : Rd (w.alloc (.cells (pc p).toArray 54)) 34 (some ⟨w.heap.size, 0, none⟩) 1 (pps [p]) := by
  have h := (Own.lit (base := 0) (e := 54) (size := 34) (G := fun _ => True) w (pc p).toArray 1 (Nat.zero_le _) (by decide) (by simpa using pc_length hp) (fun _ _ => trivial)).rd
  have e : pps [p] = (pc p).toArray.toList := by unfold pps; simp
  rw [e]
  exact h
theorem wpList_appC (w : World) {ops : Array Oper} {rest : List Oper} {o : Oper} {a : Act} {Q : Exit → Act → World → Prop} (hgd : o.guard = none) (s x : Operand)
    (ho : o.op = .call { callee := .builtin .append, args := #[s, x], argTypes := #[22, 22] })
    (base : Nat) (B : Option Addr) (n c : Nat) (hs : List Cm) (hsv : a.eval s = .slice B n c) (hown : OwnP w base B n c hs)
    (B2 : Option Addr) (m2 c2 : Nat) (gs : List Cm) (hx : a.eval x = .slice B2 m2 c2) (hg : Rd w 37 B2 m2 (pcs gs)) (hl2 : gs.length = m2)
    (hgs : ∀ m ∈ gs, m.c.ok ∧ OwnB w base m.A m.c.l.length m.k m.c.l ∧ m.c.l.length ≤ 140737488355328) (hm : n + m2 ≤ 1000000000) (hbase : base ≤ w.heap.size)
    (h : ∀ B' c' w', OwnP w' base B' (n + m2) c' (hs ++ gs) → w.grownBy w' (blk B) → (B' = B ∨ B' = some ⟨w.heap.size, 0, none⟩) → wpList Try.prog ops Q rest (a.put o.dst (.slice B' (n + m2) c')) w') :
    wpList Try.prog ops Q (o :: rest) a w := by
  obtain ⟨i, z, hi, hz, hzc, hsz, hby⟩ := info_cells inf_coin
  refine wpList_app _ hgd s x _ ho base 57 i z 37 80 (fun _ => True) Try.underlying22 hi hz hsz hby (by rw [hzc]; simpa using cc_length (m := zm) zeroPt_ok) (by omega) (fun _ _ => trivial) B n c (pcs hs) hsv hown.row _ m2 c2 (pcs gs) hx hg pcs_one (fun _ _ => trivial)
    (by unfold maxLen; omega) (by omega) hbase ?_
  intro B' c' w' h2 hg2 h3
  refine h B' c' w' ⟨by rw [pcs_append]; exact h2, ?_, by rw [List.length_append, hown.len, hl2]⟩ hg2 h3
  intro y hy
  rcases List.mem_append.1 hy with hy | hy
  · obtain ⟨k1, k2, k3⟩ := hown.ok y hy
    exact ⟨k1, OwnN.grown k2 hg2 (hown.ne k2), k3⟩
  · obtain ⟨k1, k2, k3⟩ := hgs y hy
    exact ⟨k1, OwnN.grown k2 hg2 (hown.ne k2), k3⟩
theorem wpList_appQ (w : World) {ops : Array Oper} {rest : List Oper} {o : Oper} {a : Act} {Q : Exit → Act → World → Prop} (hgd : o.guard = none) (s x : Operand)
    (ho : o.op = .call { callee := .builtin .append, args := #[s, x], argTypes := #[23, 23] })
    (base : Nat) (B : Option Addr) (n c : Nat) (xs : List Pt) (hsv : a.eval s = .slice B n c) (hown : OwnQ w base B n c xs)
    (B2 : Option Addr) (m2 c2 : Nat) (ys : List Pt) (hx : a.eval x = .slice B2 m2 c2) (hg : Rd w 34 B2 m2 (pps ys)) (hl2 : ys.length = m2)
    (hys : ∀ p ∈ ys, p.ok) (hm : n + m2 ≤ 1000000000) (hbase : base ≤ w.heap.size)
    (h : ∀ B' c' w', OwnQ w' base B' (n + m2) c' (xs ++ ys) → w.grownBy w' (blk B) → (B' = B ∨ B' = some ⟨w.heap.size, 0, none⟩) → wpList Try.prog ops Q rest (a.put o.dst (.slice B' (n + m2) c')) w') :
    wpList Try.prog ops Q (o :: rest) a w := by
  obtain ⟨i, z, hi, hz, hzc, hsz, hby⟩ := info_cells inf_point
  refine wpList_app _ hgd s x _ ho base 54 i z 34 40 (fun _ => True) Try.underlying23 hi hz hsz hby (by rw [hzc]; simpa using pc_length zeroPt_ok) (by omega) (fun _ _ => trivial) B n c (pps xs) hsv hown.row _ m2 c2 (pps ys) hx hg pps_one (fun _ _ => trivial)
    (by unfold maxLen; omega) (by omega) hbase ?_
  intro B' c' w' h2 hg2 h3
  refine h B' c' w' ⟨by rw [pps_append]; exact h2, fun p hp => ?_, by rw [List.length_append, hown.len, hl2]⟩ hg2 h3
  rcases List.mem_append.1 hp with hp | hp
  · exact hown.ok p hp
  · exact hys p hp

/-! ### the deferred call -/
set_option maxRecDepth 20000 in
theorem keptD_ok (w : World) (u : FrameMode) (pv qv : Value) (b : Nat) (h : w.cell? ⟨b, 0, none⟩ = some (.int .i64 0)) :
    CallsD Try.prog 53 #[pv, qv, .pointer (some ⟨b, 0, none⟩)] u w fun e u' w' => u' = u ∧ (e = .returned (.tuple #[]) ∧ w' = w) := by
  go_enter_d Try.func53, Try.ntmps53
  go_wp2_with (fail)
  go_end0
  exact ⟨rfl, rfl⟩
set_option maxRecDepth 20000 in
theorem keptD_err (w : World) (u : FrameMode) (g k : Nat) (b : Nat) (q : Int) (x y z : Value) (P : Option Addr) (n c : Nat) (m : Int) (hq : (q == 0) = false) (h : w.cell? ⟨b, 0, none⟩ = some (.int .i64 q))
    (hg : w.heap[g]? = some (.cells #[x, y, z] 29 (0, 0))) (hk : w.heap[k]? = some (.cells #[.bool true, .slice P n c, .int .i64 m] 29 (0, 0))) :
    CallsD Try.prog 53 #[.pointer (some ⟨g, 0, none⟩), .pointer (some ⟨k, 0, none⟩), .pointer (some ⟨b, 0, none⟩)] u w fun e u' w' => u' = u ∧ (e = .returned (.tuple #[]) ∧ w' = ((w.setCell ⟨g, 0, none⟩ (.bool true)).setCell ⟨g, 1, none⟩ (.slice P n c)).setCell ⟨g, 2, none⟩ (.int .i64 m)) := by
  have k0 : w.cell? ⟨k, 0, none⟩ = some (.bool true) := (row_cells hk 0).1
  have k1 : w.cell? ⟨k, 1, none⟩ = some (.slice P n c) := (row_cells hk 1).1
  have k2 : w.cell? ⟨k, 2, none⟩ = some (.int .i64 m) := (row_cells hk 2).1
  have g0 : w.cell? ⟨g, 0, none⟩ = some x := (row_cells hg 0).1
  have g1 : w.cell? ⟨g, 1, none⟩ = some y := (row_cells hg 1).1
  have g2 : w.cell? ⟨g, 2, none⟩ = some z := (row_cells hg 2).1
  have f0 := (row_cells hg 0).2
  have f1 := (row_cells hg 1).2
  have f2 := (row_cells hg 2).2
  clear hg hk
  go_enter_d Try.func53, Try.ntmps53
  go_wp2_with (fail)
  go_end0
  exact ⟨rfl, rfl⟩
end Go.Proofs.Ytofclanljhfkiaa
/- Undo: what Do and Back hold of memory between two steps. -/
namespace Go.Proofs.Ytofclanljhfkiaa
open Go.RowKit Go.Proofs En Co
set_option linter.unusedVariables false
set_option linter.unusedSimpArgs false
set_option maxRecDepth 20000

theorem Only.boxU {w w' : World} {g k : Nat} {P : Option Addr} {xs : Array Value} {T : TypeId} (ho : Only w w' g P) (hk : Kinds w g P) (h : w.heap[k]? = some (.cells xs T (0, 0))) (h1 : T ≠ 29) (h2 : T ≠ 22) : w'.heap[k]? = some (.cells xs T (0, 0)) := by
  refine ho.heap h (fun e => ?_) (fun e => ?_)
  · obtain ⟨ys, hy⟩ := hk.1
    rw [e, hy] at h
    injection h with h
    injection h with _ h
    exact h1 h.symm
  · obtain ⟨ys, hy⟩ := hk.2 k e
    rw [hy] at h
    injection h with h
    injection h with _ h
    exact h2 h.symm
theorem point_at {w : World} {g : Nat} {p : Pt} {t : TypeId} (h : w.heap[g]? = some (.cells (pc p).toArray t (0, 0))) : ∀ j v, (pc p)[j]? = some v → w.cell? ((⟨g, 0, none⟩ : Addr).add j) = some v := fun j v hv => (cell_at h j).trans (by simpa using hv)
/-- blocks of cells of all types but one are as they were -/
structure Spare (w w' : World) (T0 : TypeId) : Prop where
  size : w.heap.size ≤ w'.heap.size
  block : ∀ (j : Nat) (xs : Array Value) (T : TypeId), w.heap[j]? = some (.cells xs T (0, 0)) → T ≠ T0 → w'.heap[j]? = w.heap[j]?
section
variable {w w' w2 : World} {base b g n c : Nat} {P A : Option Addr} {ps : List (List Cn)} {T0 : TypeId}
theorem Own.spare {e : TypeId} {size : Nat} {G : Value → Prop} {cs : List Value} (h : Own w base e size G A n c cs) (hs : Spare w w' T0) (hne : e ≠ T0) : Own w' base e size G A n c cs := by
  refine Own.keep h fun k hk => ?_
  rcases h.2 with ⟨rfl, _⟩ | ⟨g', cur, rfl, _, hh, _⟩
  · cases hk
  · have e : g' = k := by simpa [blk] using hk
    subst e
    exact hs.block _ _ _ hh hne
theorem OwnP.spare {hs : List Cm} (h : OwnP w base A n c hs) (s : Spare w w' T0) (h1 : 57 ≠ T0) (h2 : 5 ≠ T0) : OwnP w' base A n c hs :=
  ⟨Own.spare h.row s h1, fun m hm => ⟨(h.ok m hm).1, Own.spare (h.ok m hm).2.1 s h2, (h.ok m hm).2.2⟩, h.len⟩
theorem OwnQ.spare {xs : List Pt} (h : OwnQ w base A n c xs) (s : Spare w w' T0) (h1 : 54 ≠ T0) : OwnQ w' base A n c xs := ⟨Own.spare h.row s h1, h.ok, h.len⟩
theorem Tb.spare (h : Tb w base g P ps) (s : Spare w w' T0) (h1 : 57 ≠ T0) (h2 : 5 ≠ T0) (h3 : 29 ≠ T0) (h4 : 22 ≠ T0) : Tb w' base g P ps := by
  obtain ⟨np, cp, gs, hT, rfl⟩ := h
  exact ⟨np, cp, gs, ⟨hT.low, (s.block _ _ _ hT.row h3).trans hT.row, Own.spare hT.pages s h4, fun x hx => ⟨(hT.own x hx).1.spare s h1 h2, (hT.own x hx).2⟩, hT.up, hT.most⟩, rfl⟩
theorem Spare.set {k : Nat} {xs : Array Value} {T : TypeId} (h : w.heap[k]? = some (.cells xs T (0, 0))) (j : Nat) (v : Value) : Spare w (w.setCell ⟨k, j, none⟩ v) T :=
  ⟨by simp, fun i ys U hi hU => Below.heap_setCell _ _ _ _ (fun e => by
    have e : i = k := e
    subst e
    rw [h] at hi
    injection hi with hi
    injection hi with _ hi
    exact hU hi.symm)⟩
theorem Spare.grow {e : TypeId} {size : Nat} {G : Value → Prop} {cs : List Value} (h : Own w base e size G A n c cs) (hg : w.grownBy w' (blk A)) : Spare w w' e :=
  ⟨hg.size, fun i ys U hi hU => hg.block i (Array.getElem?_eq_some_iff.1 hi).1 (fun e2 => Own.ne_block h hi hU.symm e2.symm)⟩
theorem Only.cellN (h : Only w w' g P) {a : Addr} (ha : w.heap.size ≤ a.block) (v : Value) : Only w (w'.setCell a v) g P :=
  ⟨h.os, h.tape, h.output, by simpa using h.size, fun k hk h1 h2 => (Below.heap_setCell _ _ _ _ (by omega)).trans (h.block k hk h1 h2)⟩
theorem FirmO.ne_g {B : Option Addr} (h : FirmO w base B) (t : Tb w base g P ps) : blk B ≠ some g := fun e => by
  obtain ⟨_, h2⟩ := h g e
  have h3 := t.low.1
  rcases h2 with h2 | ⟨xs, T, h2, h4, _⟩
  · omega
  · obtain ⟨np, cp, h5⟩ := t.row
    rw [h2] at h5
    injection h5 with h5
    injection h5 with _ h5
    exact h4 h5
theorem FirmK.ne_g {B : Option Addr} (h : FirmK w base B) (t : Tb w base g P ps) : blk B ≠ some g := h.f.o.ne_g t
end

/-- between two steps: the table, what is taken, what is made, the box of both -/
structure DoS (wc wr : World) (base g : Nat) (P : Option Addr) (Pk : Option Addr) (qs : List (List Cn)) (A : Option Addr) (k c : Nat) (hs : List Cm) (A2 : Option Addr) (k2 c2 : Nat) (ys : List Pt) : Prop where
  only : Only wc wr g P
  kp : Kept wc P Pk
  t : Tb wr base g Pk qs
  sp : OwnP wr base A k c hs
  spn : k = 0 → A = none
  spb : ∀ j, blk A = some j → wc.heap.size ≤ j
  md : OwnQ wr base A2 k2 c2 ys
  mdb : ∀ j, blk A2 = some j → wc.heap.size ≤ j
  box : wr.heap[wc.heap.size]? = some (.cells #[.slice A k c, .slice A2 k2 c2] 25 (0, 0))
section
variable {wc wr w3 w6 : World} {base g k c k2 c2 : Nat} {P Pk P' A A2 : Option Addr} {ps qs qs' : List (List Cn)} {hs : List Cm} {ys : List Pt}
theorem DoS.below (h : DoS wc wr base g P Pk qs A k c hs A2 k2 c2 ys) (hb : Below wr.heap.size wr w3) : DoS wc w3 base g P Pk qs A k c hs A2 k2 c2 ys :=
  ⟨h.only.then hb, h.kp, h.t.below hb, h.sp.below hb, h.spn, h.spb, h.md.below hb, h.mdb, kept h.box hb⟩
theorem DoS.move (h : DoS wc wr base g P Pk qs A k c hs A2 k2 c2 ys) (ho : Only wr w3 g Pk) (hk : Kept wr Pk P') (hT : Tb w3 base g P' qs') : DoS wc w3 base g P P' qs' A k c hs A2 k2 c2 ys :=
  ⟨h.only.chain h.kp ho, h.kp.chain hk h.only.size, hT, h.sp.only ho h.t.kinds, h.spn, h.spb, ⟨Own.only h.md.row ho h.t.kinds (by decide) (by decide), h.md.ok, h.md.len⟩, h.mdb, ho.boxU h.t.kinds h.box (by decide) (by decide)⟩
theorem DoS.box1 (h : DoS wc wr base g P Pk qs A k c hs A2 k2 c2 ys) (hg : wr.grownBy w6 (blk A)) : w6.heap[wc.heap.size]? = some (.cells #[.slice A k c, .slice A2 k2 c2] 25 (0, 0)) :=
  (hg.block _ (Array.getElem?_eq_some_iff.1 h.box).1 (fun e => Own.ne_block h.sp.row h.box (by decide) e.symm)).trans h.box
theorem DoS.box2 (h : DoS wc wr base g P Pk qs A k c hs A2 k2 c2 ys) (hg : wr.grownBy w6 (blk A2)) : w6.heap[wc.heap.size]? = some (.cells #[.slice A k c, .slice A2 k2 c2] 25 (0, 0)) :=
  (hg.block _ (Array.getElem?_eq_some_iff.1 h.box).1 (fun e => Own.ne_block h.md.row h.box (by decide) e.symm)).trans h.box
theorem DoS.spend (h : DoS wc wr base g P Pk qs A k c hs A2 k2 c2 ys) (hap : ∀ m ∈ hs, ∀ d ∈ qs.flatten, d.p ≠ m.c.p) {B' : Option Addr} {c' : Nat} {m : Cm} (ho : OwnP w6 base B' (k + 1) c' (hs ++ [m])) (hg : wr.grownBy w6 (blk A)) (hB : B' = A ∨ B' = some ⟨wr.heap.size, 0, none⟩) :
    DoS wc (w6.setCell ⟨wc.heap.size, 0, none⟩ (.slice B' (k + 1) c')) base g P Pk qs B' (k + 1) c' (hs ++ [m]) A2 k2 c2 ys := by
  have hbox : w6.heap[wc.heap.size]? = some (.cells #[.slice A k c, .slice A2 k2 c2] 25 (0, 0)) := (hg.block _ (Array.getElem?_eq_some_iff.1 h.box).1 (fun e => Own.ne_block h.sp.row h.box (by decide) e.symm)).trans h.box
  have s1 := Spare.grow h.sp.row hg
  have s2 := Spare.set hbox 0 (.slice B' (k + 1) c')
  refine ⟨(h.only.more hg h.spb).cellN (Nat.le_refl _) _, h.kp, (h.t.appended h.sp h.spn hap hg).spare s2 (by decide) (by decide) (by decide) (by decide), ho.spare s2 (by decide) (by decide), by omega, ?_, (h.md.spare s1 (by decide)).spare s2 (by decide), h.mdb, ?_⟩
  · rcases hB with rfl | rfl
    · exact h.spb
    · intro j hj
      have e : wr.heap.size = j := by simpa [blk] using hj
      have := h.only.size
      omega
  · have := heap_setCell_same _ _ 0 _ _ (.slice B' (k + 1) c') hbox
    simpa using this
theorem DoS.made (h : DoS wc wr base g P Pk qs A k c hs A2 k2 c2 ys) {B' : Option Addr} {c' : Nat} {p : Pt} (ho : OwnQ w6 base B' (k2 + 1) c' (ys ++ [p])) (hg : wr.grownBy w6 (blk A2)) (hB : B' = A2 ∨ B' = some ⟨wr.heap.size, 0, none⟩) :
    DoS wc (w6.setCell ⟨wc.heap.size, 1, none⟩ (.slice B' (k2 + 1) c')) base g P Pk qs A k c hs B' (k2 + 1) c' (ys ++ [p]) := by
  have s1 := Spare.grow h.md.row hg
  have hbox : w6.heap[wc.heap.size]? = some (.cells #[.slice A k c, .slice A2 k2 c2] 25 (0, 0)) := (s1.block _ _ _ h.box (by decide)).trans h.box
  have s2 := Spare.set hbox 1 (.slice B' (k2 + 1) c')
  refine ⟨(h.only.more hg h.mdb).cellN (Nat.le_refl _) _, h.kp, (h.t.spare s1 (by decide) (by decide) (by decide) (by decide)).spare s2 (by decide) (by decide) (by decide) (by decide), (h.sp.spare s1 (by decide) (by decide)).spare s2 (by decide) (by decide), h.spn, h.spb, ho.spare s2 (by decide), ?_, ?_⟩
  · rcases hB with rfl | rfl
    · exact h.mdb
    · intro j hj
      have e : wr.heap.size = j := by simpa [blk] using hj
      have := h.only.size
      omega
  · have := heap_setCell_same _ _ 1 _ _ (.slice B' (k2 + 1) c') hbox
    simpa using this
end
theorem Tb.llen {w : World} {base g : Nat} {P : Option Addr} {ps : List (List Cn)} (h : Tb w base g P ps) : ∀ c ∈ ps.flatten, c.l.length ≤ 140737488355328 := by
  obtain ⟨np, cp, gs, h, rfl⟩ := h
  intro c hc
  rw [pgsOf_flat] at hc
  obtain ⟨m, hm, rfl⟩ := List.mem_map.1 hc
  exact (h.coins m hm).arg.len
theorem takeM_in {ps : List (List Cn)} {p : Pt} (h : (takeM ps p).2.2 = 0) : (takeM ps p).2.1 ∈ ps.flatten := by
  obtain ⟨c, hf, e⟩ := take_yes h
  rw [e]
  exact (findF_some hf).1
/-- what Do leaves -/
def DoE (w : World) (base g : Nat) (P : Option Addr) (r : List (List Cn) × List Cn × List Pt × Int) (e : Ending) (w' : World) : Prop :=
  ∃ A n d hs A2 n2 d2, e = .returned (.tuple #[.agg #[.slice A n d, .slice A2 n2 d2], .int .i64 r.2.2.2]) ∧ OwnP w' base A n d hs ∧ cns hs = r.2.1 ∧ OwnQ w' base A2 n2 d2 r.2.2.1 ∧ ∃ P', Tb w' base g P' r.1 ∧ Kept w P P' ∧ Only w w' g P
/-- what Back leaves -/
def BackE (w : World) (base g : Nat) (P : Option Addr) (r : List (List Cn) × Int) (e : Ending) (w' : World) : Prop :=
  e = .returned (.int .i64 r.2) ∧ ∃ P', Tb w' base g P' r.1 ∧ Kept w P P' ∧ Only w w' g P

/-- all that a failing Do or Back has at its end: the table is put back -/
theorem restored {w w5 : World} {base b g k : Nat} {P Pk P2 : Option Addr} {ps qs : List (List Cn)} (hbb : w.heap.size ≤ b) (hbase : base ≤ w.heap.size) (hc : Tb w5 b k P2 ps) (ht : Tb w5 base g Pk qs) (ho : Only w w5 g P) :
    ∃ n c x y z, w5.heap[k]? = some (.cells #[.bool true, .slice P2 n c, .int .i64 ps.flatten.length] 29 (0, 0)) ∧ w5.heap[g]? = some (.cells #[x, y, z] 29 (0, 0)) ∧
      Tb (((w5.setCell ⟨g, 0, none⟩ (.bool true)).setCell ⟨g, 1, none⟩ (.slice P2 n c)).setCell ⟨g, 2, none⟩ (.int .i64 ps.flatten.length)) base g P2 ps ∧ Kept w P P2 ∧
      Only w (((w5.setCell ⟨g, 0, none⟩ (.bool true)).setCell ⟨g, 1, none⟩ (.slice P2 n c)).setCell ⟨g, 2, none⟩ (.int .i64 ps.flatten.length)) g P := by
  have hk := hc.low
  obtain ⟨n, c, hr⟩ := hc.row
  obtain ⟨np, cp, hr2⟩ := ht.row
  exact ⟨n, c, _, _, _, hr, hr2, hc.restore (by omega) ht.low.1 hr hr2, .inr fun j hj => by have := (hc.plow j hj).1; omega, ((ho.setCell (.inl rfl) _).setCell (.inl rfl) _).setCell (.inl rfl) _⟩
/-- the copy behind what was done to the table -/
theorem copy_kept {w wc w4 : World} {base b g k : Nat} {P P2 : Option Addr} {ps qs : List (List Cn)} (ht0 : Tb wc base g P qs) (hc : Tb wc b k P2 ps) (hbb : w.heap.size ≤ b) (hg : g < w.heap.size) (hP : ∀ j, blk P = some j → j < w.heap.size) (ho : Only wc w4 g P) : Tb w4 b k P2 ps :=
  hc.only ho ht0.kinds (by have := hc.low; omega) (fun j h1 h2 => by have := hP j h1; have := (hc.plow j h2).1; omega)
theorem ld_errno (w : World) (b : Nat) (v : Int) (h : w.cell? ⟨b, 0, none⟩ = some (.int .i64 v)) : (loadVar 30 ⟨b, 0, none⟩).run Try.prog w = .ok (.int .i64 v) w := by
  unfold loadVar
  simp [Try.underlying30, load, Sem.run_bind, Result.andThen]
  show (Sem.run Try.prog (load ⟨b, 0, none⟩) _) = _
  rw [run_load, h]
theorem ld_undo (w : World) (b : Nat) (u v : Value) (h : w.heap[b]? = some (.cells #[u, v] 25 (0, 0))) : (loadVar 25 ⟨b, 0, none⟩).run Try.prog w = .ok (.agg #[u, v]) w := by
  refine run_loadVar_at (P := Try.prog) _ ⟨b, 0, none⟩ 25 [u, v] _ Try.underlying25 rfl (by kernel_rfl) (fun j x hv => ?_)
  match j, hv with
  | 0, hv => exact (row_cells h 0).1.trans (by simpa using hv)
  | 1, hv => exact (row_cells h 1).1.trans (by simpa using hv)
  | j + 2, hv => simp at hv
theorem kept_enters (args : Array Value) (w : World) : (invoke (.fn (.func 53) #[]) args).run Try.prog w = .ok (.enter 53 args) w := by simp [go_sem]
/-- the three cells of the results written -/
def wroteW (w4 : World) (X : Nat) (u v : Value) (q : Int) : World := ((w4.setCell ⟨X, 0, none⟩ u).setCell ⟨X, 1, none⟩ v).setCell ⟨X + 1, 0, none⟩ (.int .i64 q)
section
variable {w w4 : World} {X g base b : Nat} {P A : Option Addr} {ps : List (List Cn)} {x y u v : Value} {q q0 : Int} {n c : Nat}
structure Boxes (w4 : World) (X : Nat) (x y : Value) (q0 : Int) : Prop where
  x : w4.heap[X]? = some (.cells #[x, y] 25 (0, 0))
  y : w4.heap[X + 1]? = some (.cells #[.int .i64 q0] 30 (0, 0))
theorem Boxes.wrote (h : Boxes w4 X x y q0) (u v : Value) (q : Int) : Boxes (wroteW w4 X u v q) X u v q := by
  have q1 := heap_setCell_same _ _ 0 _ _ u h.x
  have q2 := heap_setCell_same _ _ 1 _ _ v q1
  have r2 := (Below.heap_setCell _ ⟨X, 1, none⟩ v (X + 1) (by show X + 1 ≠ X; omega)).trans ((Below.heap_setCell w4 ⟨X, 0, none⟩ u (X + 1) (by show X + 1 ≠ X; omega)).trans h.y)
  have q3 := (Below.heap_setCell _ ⟨X + 1, 0, none⟩ (.int .i64 q) X (by show X ≠ X + 1; omega)).trans q2
  have r3 := heap_setCell_same _ _ 0 _ _ (.int .i64 q) r2
  exact ⟨by simpa [wroteW] using q3, by simpa [wroteW] using r3⟩
theorem Boxes.spare1 (h : Boxes w4 X x y q0) (u v : Value) : Spare w4 ((w4.setCell ⟨X, 0, none⟩ u).setCell ⟨X, 1, none⟩ v) 25 := by
  have s1 := Spare.set h.x 0 u
  have q1 := heap_setCell_same _ _ 0 _ _ u h.x
  have s2 := Spare.set q1 1 v
  exact ⟨Nat.le_trans s1.size s2.size, fun j ys T hj hT => (s2.block j ys T ((s1.block j ys T hj hT).trans hj) hT).trans (s1.block j ys T hj hT)⟩
theorem Boxes.spare2 (h : Boxes w4 X x y q0) (u v : Value) (q : Int) : Spare ((w4.setCell ⟨X, 0, none⟩ u).setCell ⟨X, 1, none⟩ v) (wroteW w4 X u v q) 30 := by
  have r2 := (Below.heap_setCell _ ⟨X, 1, none⟩ v (X + 1) (by show X + 1 ≠ X; omega)).trans ((Below.heap_setCell w4 ⟨X, 0, none⟩ u (X + 1) (by show X + 1 ≠ X; omega)).trans h.y)
  exact Spare.set r2 0 (.int .i64 q)
theorem Tb.wrote (t : Tb w4 base g P ps) (h : Boxes w4 X x y q0) (u v : Value) (q : Int) : Tb (wroteW w4 X u v q) base g P ps :=
  (t.spare (T0 := 25) (h.spare1 u v) (by decide) (by decide) (by decide) (by decide)).spare (T0 := 30) (h.spare2 u v q) (by decide) (by decide) (by decide) (by decide)
theorem OwnP.wrote {hs : List Cm} (t : OwnP w4 base A n c hs) (h : Boxes w4 X x y q0) (u v : Value) (q : Int) : OwnP (wroteW w4 X u v q) base A n c hs :=
  (t.spare (T0 := 25) (h.spare1 u v) (by decide) (by decide)).spare (T0 := 30) (h.spare2 u v q) (by decide) (by decide)
theorem OwnQ.wrote {xs : List Pt} (t : OwnQ w4 base A n c xs) (h : Boxes w4 X x y q0) (u v : Value) (q : Int) : OwnQ (wroteW w4 X u v q) base A n c xs :=
  (t.spare (T0 := 25) (h.spare1 u v) (by decide)).spare (T0 := 30) (h.spare2 u v q) (by decide)
theorem Only.wrote (h : Only w w4 g P) (hX : w.heap.size ≤ X) (u v : Value) (q : Int) : Only w (wroteW w4 X u v q) g P :=
  ((h.cellN (a := ⟨X, 0, none⟩) hX u).cellN (a := ⟨X, 1, none⟩) hX v).cellN (a := ⟨X + 1, 0, none⟩) (by show _ ≤ X + 1; omega) _
end
theorem do_fail {fn : Func} (hf : fn.results = #[.cell 6 25, .cell 7 30]) {w wc w4 : World} {base b g k : Nat} {P Pk P2 : Option Addr} {ps qs : List (List Cn)} {tmps : Array Value} {x y : Value} {q0 q : Int} (hb : Below w.heap.size w wc) (ht0 : Tb wc base g P ps) (hc : Tb wc b k P2 ps) (hbb : w.heap.size ≤ b) (hbase : base ≤ w.heap.size) (hg : g < w.heap.size) (hP : ∀ j, blk P = some j → j < w.heap.size)
    (bx : Boxes w4 w.heap.size x y q0) (ho : Only wc w4 g P) (ht : Tb w4 base g Pk qs) (hq : q ≠ 0) {r : List (List Cn) × List Cn × List Pt × Int} (hr : r = (ps, [], [], q)) (h6 : tmps.getD 6 undef = .pointer (some ⟨w.heap.size, 0, none⟩)) (h7 : tmps.getD 7 undef = .pointer (some ⟨w.heap.size + 1, 0, none⟩)) :
    Leaves Try.prog fn tmps (DoE w base g P r) [{ target := .fn (.func 53) #[], args := #[ptr g, ptr k, .pointer (some ⟨w.heap.size + 1, 0, none⟩)] }] .returning (wroteW w4 w.heap.size (.slice none 0 0) (.slice none 0 0) q) := by
  have b5 := bx.wrote (.slice none 0 0) (.slice none 0 0) q
  have o5 := (Only.pre hb ho).wrote (X := w.heap.size) (Nat.le_refl _) (.slice none 0 0) (.slice none 0 0) q
  obtain ⟨n, c, x1, y1, z1, k1, k2, k3, k4, k5⟩ := restored hbb hbase ((copy_kept ht0 hc hbb hg hP ho).wrote bx (.slice none 0 0) (.slice none 0 0) q) (ht.wrote bx (.slice none 0 0) (.slice none 0 0) q) o5
  refine leaves_cons (by simp) (kept_enters _ _) ((keptD_err _ .returning g k (w.heap.size + 1) q x1 y1 z1 P2 n c _ (by simpa using hq) (row_cells b5.y 0).1 k2 k1).mono ?_)
  rintro e u' w6 ⟨rfl, rfl, rfl⟩
  have hn : ∀ j, j ≠ g → ((((wroteW w4 w.heap.size (.slice none 0 0) (.slice none 0 0) q).setCell ⟨g, 0, none⟩ (.bool true)).setCell ⟨g, 1, none⟩ (.slice P2 n c)).setCell ⟨g, 2, none⟩ (.int .i64 ps.flatten.length)).heap[j]? = (wroteW w4 w.heap.size (.slice none 0 0) (.slice none 0 0) q).heap[j]? := fun j hj =>
    ((Below.heap_setCell _ _ _ _ (show j ≠ g from hj)).trans (Below.heap_setCell _ _ _ _ (show j ≠ g from hj))).trans (Below.heap_setCell _ _ _ _ (show j ≠ g from hj))
  have hx := (hn w.heap.size (by omega)).trans b5.x
  have hy := (hn (w.heap.size + 1) (by omega)).trans b5.y
  refine ⟨_, res_cc hf h6 (ld_undo _ _ _ _ hx) h7 (ld_errno _ _ _ (row_cells hy 0).1), ?_⟩
  subst hr
  exact ⟨none, 0, 0, [], none, 0, 0, rfl, OwnP.nil _ _, rfl, OwnQ.nil _ _, P2, k3, k4, k5⟩
theorem do_good {fn : Func} (hf : fn.results = #[.cell 6 25, .cell 7 30]) {w wc w4 : World} {base g : Nat} {P Pk A A2 : Option Addr} {n c n2 c2 : Nat} {rs : List (List Cn)} {hs : List Cm} {ys : List Pt} {tmps : Array Value} {pv qv : Value} {x y : Value} {q0 : Int} (hb : Below w.heap.size w wc)
    (bx : Boxes w4 w.heap.size x y q0) (d : DoS wc w4 base g P Pk rs A n c hs A2 n2 c2 ys) {r : List (List Cn) × List Cn × List Pt × Int} (hr : r = (rs, cns hs, ys, 0)) (h6 : tmps.getD 6 undef = .pointer (some ⟨w.heap.size, 0, none⟩)) (h7 : tmps.getD 7 undef = .pointer (some ⟨w.heap.size + 1, 0, none⟩)) :
    Leaves Try.prog fn tmps (DoE w base g P r) [{ target := .fn (.func 53) #[], args := #[pv, qv, .pointer (some ⟨w.heap.size + 1, 0, none⟩)] }] .returning (wroteW w4 w.heap.size (.slice A n c) (.slice A2 n2 c2) 0) := by
  have b5 := bx.wrote (.slice A n c) (.slice A2 n2 c2) 0
  have o5 := (Only.pre hb d.only).wrote (X := w.heap.size) (Nat.le_refl _) (.slice A n c) (.slice A2 n2 c2) 0
  refine leaves_cons (by simp) (kept_enters _ _) ((keptD_ok _ .returning pv qv (w.heap.size + 1) (row_cells b5.y 0).1).mono ?_)
  rintro e u' w6 ⟨rfl, rfl, rfl⟩
  refine ⟨_, res_cc hf h6 (ld_undo _ _ _ _ b5.x) h7 (ld_errno _ _ _ (row_cells b5.y 0).1), ?_⟩
  subst hr
  exact ⟨A, n, c, hs, A2, n2, c2, rfl, d.sp.wrote bx _ _ _, rfl, d.md.wrote bx _ _ _, Pk, d.t.wrote bx _ _ _, d.kp.pre hb, o5⟩
end Go.Proofs.Ytofclanljhfkiaa
