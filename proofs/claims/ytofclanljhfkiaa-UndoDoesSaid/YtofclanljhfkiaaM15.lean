/- Joined texts: TabY, TbA, TbB. -/
import Derived.Test.YtofclanljhfkiaaM14
import Derived.Deep.RegionLaw
/- Another table that is the same: Copy. -/
namespace Go.Proofs.Ytofclanljhfkiaa
open Go.RowKit Go.Proofs En Co
set_option linter.unusedVariables false
set_option linter.unusedSimpArgs false
set_option maxRecDepth 20000
attribute [local go_sem] nil_bytes nil_coins

/-- append of pages, at a step of a region that draws its order -/
theorem step_appP (w : World) {ops : Array Oper} {o : Oper} {a : Act} {K : Act → World → Prop} {Q : Exit → Act → World → Prop} {E : Prop} (hgd : o.guard = none) (s x : Operand)
    (ho : o.op = .call { callee := .builtin .append, args := #[s, x], argTypes := #[27, 27] })
    (base : Nat) (B : Option Addr) (n c : Nat) (xs : List Value) (hsv : a.eval s = .slice B n c) (hown : Own w base 22 1 (fun _ => True) B n c xs)
    (p : Part) (hx : a.eval x = .slice p.A p.n p.c) (hp : p.ok w 1) (hm : n + p.n ≤ 1000000000) (hbase : base ≤ w.heap.size)
    (h : ∀ B' c' w', Own w' base 22 1 (fun _ => True) B' (n + p.n) c' (xs ++ p.cs) → w.grownBy w' (blk B) → K (a.put o.dst (.slice B' (n + p.n) c')) w') :
    if Region.wanted o (yielded ops a.tmps) = true then Oper.wp Try.prog o a w K Q else E := by
  have hw : Region.wanted o (yielded ops a.tmps) = true := by simp [Region.wanted, hgd]
  rw [if_pos hw]
  obtain ⟨i, z, hi, hz, hzc, hsz, hby⟩ := info_cells inf_page
  obtain ⟨A', c', w', hrun, h2, h3, h4⟩ := run_app (P := Try.prog) w base 27 o.type 22 i z 1 24 (fun _ => True) Try.underlying27 hi hz hsz hby (by rw [hzc]; rfl) (by omega) (fun _ _ => trivial) B n c xs hown p.A p.n p.c p.cs hp.1 hp.2 (fun _ _ => trivial) (by unfold maxLen; omega) (by omega) hbase
  unfold Oper.wp execOp
  simp only [ho, resolve, invoke, builtin, Sem.run_bind, Sem.run_pure, Result.andThen_ok, List.map_toArray, List.map_cons, List.map_nil, hsv, hx, hrun]
  exact h _ _ _ h2 h3

theorem pgsOf_take (gs : List Pg) (j : Nat) : pgsOf (gs.take j) = (pgsOf gs).take j := by unfold pgsOf; rw [List.map_take]

/-- a table that is being copied -/
structure Cop (wr : World) (base b n : Nat) (A : Option Addr) (j k : Nat) (gs' : List Pg) : Prop where
  row : wr.heap[b]? = some (.cells #[.bool true, .slice A j k, .int .i64 n] 29 (0, 0))
  pages : Own wr base 22 1 (fun _ => True) A j k (gs'.map Pg.cell)
  own : ∀ x ∈ gs', OwnP wr base x.A x.n x.c x.hs ∧ 0 < x.n ∧ x.n ≤ 1000000
theorem Only.grown {w w' : World} {g : Nat} {P : Option Addr} (hg : w.grownBy w' (blk P)) : Only w w' g P := ⟨hg.os, hg.tape, hg.output, hg.size, fun k hk _ h2 => hg.block k hk (Ne.symm h2)⟩
section
variable {wr w2 w3 w4 : World} {base b n j k : Nat} {A : Option Addr} {gs' : List Pg}
theorem Cop.below (h : Cop wr base b n A j k gs') (hb : Below wr.heap.size wr w2) : Cop w2 base b n A j k gs' := ⟨kept h.row hb, h.pages.below hb, fun x hx => ⟨(h.own x hx).1.below hb, (h.own x hx).2⟩⟩
theorem Cop.kinds (h : Cop wr base b n A j k gs') : Kinds wr b A := by
  refine ⟨⟨_, h.row⟩, fun k hk => ?_⟩
  rcases h.pages.2 with ⟨rfl, _⟩ | ⟨k', cur, rfl, _, hh, _⟩
  · cases hk
  · have e : k' = k := by simpa [blk] using hk
    subst e
    exact ⟨cur, hh⟩
theorem Cop.row4 (h : Cop w3 base b n A j k gs') (hg : w3.grownBy w4 (blk A)) : w4.heap[b]? = some (.cells #[.bool true, .slice A j k, .int .i64 n] 29 (0, 0)) :=
  (hg.block b (Array.getElem?_eq_some_iff.1 h.row).1 (fun e => Own.ne_block h.pages h.row (by decide) e.symm)).trans h.row
theorem Cop.next (h : Cop w3 base b n A j k gs') (hg : w3.grownBy w4 (blk A)) {A4 : Option Addr} {k4 : Nat} {y : Pg} (ho : Own w4 base 22 1 (fun _ => True) A4 (j + 1) k4 (gs'.map Pg.cell ++ [y.cell])) (hy : OwnP w3 base y.A y.n y.c y.hs ∧ 0 < y.n ∧ y.n ≤ 1000000) :
    Cop (w4.setCell ⟨b, 1, none⟩ (.slice A4 (j + 1) k4)) base b n A4 (j + 1) k4 (gs' ++ [y]) := by
  have O : Only w3 (w4.setCell ⟨b, 1, none⟩ (.slice A4 (j + 1) k4)) b A := (Only.grown hg).setCell (.inl rfl) _
  have hr := h.row4 hg
  refine ⟨heap_setCell_same _ b 1 _ _ _ hr, ?_, fun x hx => ?_⟩
  · rw [List.map_append]
    exact Own.setOther ho (fun e => Own.ne_block ho hr (by decide) e) _
  · rcases List.mem_append.1 hx with hx | hx
    · exact ⟨(h.own x hx).1.only O h.kinds, (h.own x hx).2⟩
    · rcases List.mem_singleton.1 hx with rfl
      exact ⟨hy.1.only O h.kinds, hy.2⟩
end
abbrev Lift (b : Nat) (v : Value) (w' : World) : Prop := w'.cell? ⟨b, 1, none⟩ = some v ∧ w'.frozen? ⟨b, 1, none⟩ = false
theorem Lift.of {b : Nat} {u v z : Value} {w' : World} (h : w'.heap[b]? = some (.cells #[u, v, z] 29 (0, 0))) : Lift b v w' := ⟨(row_cells h 1).1, (row_cells h 1).2⟩

set_option maxRecDepth 20000 in
set_option maxHeartbeats 2000000 in
theorem copyT_any {w : World} {base g : Nat} {P : Option Addr} {np cp : Nat} {gs : List Pg} (h : Tab w base g P np cp gs) :
    Calls Try.prog 43 #[.pointer (some ⟨g, 0, none⟩)] w fun e w' =>
      ∃ (g' : Nat) (P' : Option Addr) (cp' : Nat) (gs' : List Pg), e = .returned (.pointer (some ⟨g', 0, none⟩)) ∧ pgsOf gs' = pgsOf gs ∧ Tab w' w.heap.size g' P' np cp' gs' ∧ Below w.heap.size w w' := by
  have C := Lib.hid (off_at w g true _ _ h.row)
  have h1 : w.cell? ⟨g, 1, none⟩ = some (.slice P np cp) := (row_cells h.row 1).1
  have h2 : w.cell? ⟨g, 2, none⟩ = some (.int .i64 (allC gs).length) := (row_cells h.row 2).1
  have hgl := (Array.getElem?_eq_some_iff.1 h.row).1
  have hnp := h.np_le
  have hl := h.len
  have b1 : Below w.heap.size w (w.alloc (.cells #[.bool true, .slice none 0 0, .int .i64 (allC gs).length] 29)) := (Below.refl _ _).alloc (Nat.le_refl _) _
  have k1 : (w.alloc (.cells #[.bool true, .slice none 0 0, .int .i64 (allC gs).length] 29)).cell? ⟨g, 1, none⟩ = some (.slice P np cp) := cell_keep h1 b1
  have s1 : Cop (w.alloc (.cells #[.bool true, .slice none 0 0, .int .i64 (allC gs).length] 29)) w.heap.size w.heap.size (allC gs).length none 0 0 [] := ⟨heap_alloc_new w _, Own.nil _ _ _ _ _, fun _ h => by cases h⟩
  have HT := Lib.hid (And.intro h (And.intro hl (And.intro b1 s1)))
  clear h hl b1 s1
  go_enter Try.func43, Try.ntmps43
  go_wp2_with (fail)
  refine C.out.mono ?_
  rintro e w1 ⟨rfl, hw1⟩
  obtain rfl : w = w1 := hw1.symm
  go_wp2_with (fail)
  go_loopw [19] (fun i wr => ∃ j : Nat, j ≤ np ∧ i = .int .i64 j ∧ (∃ A k gs', Cop wr w.heap.size w.heap.size (allC gs).length A j k gs' ∧ pgsOf gs' = (pgsOf gs).take j) ∧ Below w.heap.size w wr) (fun i _ => np - (intOf i).toNat)
  case atStart => exact ⟨0, by omega, rfl, ⟨none, 0, [], HT.out.2.2.2, rfl⟩, HT.out.2.2.1⟩
  case round =>
    obtain ⟨j, hj, rfl, ⟨A, k, gs', hs, hgs⟩, hbel⟩ := hrel
    by_cases hlt : j < np
    · obtain ⟨ad, x, had, hx, hxo, hbk, hc⟩ := (HT.out.1.arg.below hbel).at_ hlt
      subst had
      obtain ⟨hxa, hx0, hxn⟩ := hxo
      have hgl' : gs'.length = j := by have := congrArg List.length hgs; rw [pgsOf_length, List.length_take, pgsOf_length] at this; have := HT.out.2.1; omega
      have hz := hbel.size
      have hL0 : Lift w.heap.size (.slice A j k) wr.drew := Lift.of hs.row
      have CA := fun w' (hb : Below wr.heap.size wr w') => all_any x.A x.n x.c x.hs w' (hxa.below hb) (by omega)
      have Z := Lib.hid (And.intro hx (And.intro hs (And.intro hgs (And.intro hbel CA))))
      have bd0 : Below wr.heap.size wr wr.drew := (Below.refl _ _).drew
      clear hx hs hgs hbel hxa CA
      go_wp2_with (fail)
      have hcp : (pgsOf gs).take (j + 1) = (pgsOf gs).take j ++ [cns x.hs] := take_next (by unfold pgsOf; rw [List.getElem?_map, Z.out.1]; rfl)
      go_region_law (first
        | (go_simp; go_at_call 57; (with_reducible refine (Z.out.2.2.2.2 _ bd0).mono ?_); rintro e w2 ⟨B2, d2, hs2, rfl, hcn2, ho2, hb2⟩; have hr2 := kept Z.out.2.1.row (bThen bd0 hb2); have hL2 : Lift w.heap.size (.slice A j k) w2 := Lift.of hr2; have hL3 : Lift w.heap.size (.slice A j k) (w2.alloc (.cells #[.slice B2 x.n d2] 22)) := Lift.of (kept hr2 ((Below.refl w2.heap.size w2).alloc (Nat.le_refl _) _)))
        | (refine step_appP _ rfl (.tmp 27) (.tmp 30) rfl w.heap.size A j k _ (by rfl) ((Own.below Z.out.2.1.pages (bThen bd0 hb2)).alloc _) ⟨some ⟨w2.heap.size, 0, none⟩, 1, 1, [.slice B2 x.n d2]⟩ (by rfl) ⟨(Own.lit (base := 0) (e := 22) (size := 1) (G := fun _ => True) w2 #[.slice B2 x.n d2] 1 (Nat.zero_le _) (by decide) rfl (fun _ _ => trivial)).rd, fun u hu => by rcases List.mem_singleton.1 hu with rfl; rfl⟩ (by show j + 1 ≤ _; omega) (Nat.le_trans hz (Nat.le_trans hb2.size ((Below.refl w2.heap.size w2).alloc (Nat.le_refl _) _).size)) ?_; intro A4 k4 w4 ho4 hg4; have hL4 : Lift w.heap.size (.slice A j k) w4 := Lift.of (Cop.row4 (Z.out.2.1.below (bThen bd0 (bThen hb2 ((Below.refl w2.heap.size w2).alloc (Nat.le_refl _) _)))) hg4)))
      all_goals (
        have hal : Below w2.heap.size w2 (w2.alloc (.cells #[.slice B2 x.n d2] 22)) := (Below.refl _ _).alloc (Nat.le_refl _) _
        have s3 := Z.out.2.1.below (bThen bd0 (bThen hb2 hal))
        have hO2 := (ho2.mono (show w.heap.size ≤ wr.drew.heap.size from hz)).below hal
        have s5 := Cop.next (y := ⟨B2, x.n, d2, hs2⟩) s3 hg4 ho4 ⟨hO2, hx0, hxn⟩
        have b3 := bThen Z.out.2.2.2.1 (bThen bd0 (bThen hb2 hal))
        have b4 : Below w.heap.size w w4 := b3.grown hg4 b3.size (fun g hg => (Own.lt s3.pages g hg).1)
        have b5 := b4.setCell (p := ⟨w.heap.size, 1, none⟩) (Nat.le_refl _) (.slice A4 (j + 1) k4)
        have H := Lib.hid (And.intro s5 (And.intro b5 hcn2))
        clear hb2 hal s3 hO2 s5 b3 b4 b5 hg4 ho4 ho2 hr2 hL0 hL2 hL3 hL4 hcn2
        go_wp2_with (fail)
        go_roundw
        case rel =>
          refine ⟨j + 1, by omega, by go_num, ⟨A4, k4, gs' ++ [⟨B2, x.n, d2, hs2⟩], H.out.1, ?_⟩, H.out.2.1⟩
          rw [hcp]
          unfold pgsOf
          rw [List.map_append]
          congr 1
          · exact Z.out.2.2.1
          · show [cns hs2] = _
            rw [H.out.2.2]
        case measure => simp [intOf]; omega)
    · obtain rfl : j = np := by omega
      have Z := Lib.hid (And.intro hs (And.intro hgs hbel))
      clear hs hgs hbel
      go_wp2_with (fail)
      go_ret
      have e1 : pgsOf gs' = pgsOf gs := by rw [Z.out.2.1]; exact List.take_of_length_le (by rw [pgsOf_length, HT.out.2.1]; exact Nat.le_refl _)
      have e2 : cns (allC gs') = cns (allC gs) := by rw [← pgsOf_flat, ← pgsOf_flat, e1]
      have e3 : (allC gs').length = (allC gs).length := by rw [← cns_length, ← cns_length, e2]
      refine ⟨w.heap.size, A, k, gs', rfl, e1, ⟨Nat.le_refl _, by rw [e3]; exact Z.out.1.row, Z.out.1.pages, Z.out.1.own, by rw [allP_eq, e2, ← allP_eq]; exact HT.out.1.up, by rw [e3]; exact HT.out.1.most⟩, Z.out.2.2⟩
end Go.Proofs.Ytofclanljhfkiaa
/- Plain: what a table's bytes are read as. -/
namespace Go.Proofs.Ytofclanljhfkiaa
open Go.RowKit Go.Proofs En Co
set_option linter.unusedVariables false
set_option linter.unusedSimpArgs false
set_option maxRecDepth 20000

theorem getRowF_next {b : List Int} (hB : IsB b) {at_ most : Int} (h : (getRowF b at_ most).2.2 = 0) : 0 ≤ at_ ∧ at_ < (getRowF b at_ most).2.1 ∧ (getRowF b at_ most).2.1 ≤ b.length := by
  unfold getRowF at *
  split at h
  · rename_i h1
    obtain ⟨k1, k2, k3, k4, k5⟩ := getCountF_ok hB h1
    split at h
    · cases h
    · rename_i h2
      split at h
      · rename_i h3
        rw [if_pos h1, if_neg h2, if_pos h3]
        obtain ⟨p1, p2, p3, _⟩ := partF_ok h3
        refine ⟨k3, ?_, ?_⟩
        · show at_ < (getCountF b at_).2.1 + (getCountF b at_).1; omega
        · exact p3
      · rename_i h3
        exact absurd h h3
  · rename_i h1
    exact absurd h h1
theorem getCF_next {b : List Int} (hB : IsB b) {at_ : Int} (h : (getCF b at_).2.2 = 0) : 0 ≤ at_ ∧ at_ < (getCF b at_).2.1 ∧ (getCF b at_).2.1 ≤ b.length := by
  unfold getCF at *
  split at h
  · rename_i h1
    split at h
    · rename_i h2
      split at h
      · rename_i h3
        split at h
        · cases h
        · rename_i h4
          split at h
          · rename_i h5
            rw [if_pos h1, if_pos h2, if_pos h3, if_neg h4, if_pos h5]
            obtain ⟨k1, k2, k3⟩ := getRowF_next hB h5
            have hp : 0 ≤ at_ := by
              unfold getPF at h1
              split at h1
              · rename_i hp; exact (partF_ok hp).1
              · rename_i hp; exact absurd h1 hp
            refine ⟨hp, ?_, k3⟩
            show at_ < (getRowF b (at_ + 47) 100).2.1
            omega
          · rename_i h5; exact absurd h h5
      · rename_i h3; exact absurd h h3
    · rename_i h2; exact absurd h h2
  · rename_i h1; exact absurd h h1

/-- k coins more, from a place on: the coins, the place behind them, an error; tot: how many a table has already -/
def coinsA (b : List Int) : Nat → Int → Nat → List Cn → List Cn × Int × Int
  | 0, at_, _, acc => (acc, at_, 0)
  | k + 1, at_, tot, acc =>
    if (getCF b at_).2.2 = 0 then (if tot = 2000 then ([], 0, 3) else coinsA b k (getCF b at_).2.1 (tot + 1) (acc ++ [(getCF b at_).1]))
    else ([], 0, (getCF b at_).2.2)
/-- a page: its coins, the place behind it, whether it is right, an error -/
def pageR (b : List Int) (at_ : Int) (tot : Nat) : List Cn × Int × Bool × Int :=
  if (getCountF b at_).2.2 = 0 then
    (if (coinsA b (getCountF b at_).1.toNat (getCountF b at_).2.1 tot []).2.2 = 0 then
      ((coinsA b (getCountF b at_).1.toNat (getCountF b at_).2.1 tot []).1, (coinsA b (getCountF b at_).1.toNat (getCountF b at_).2.1 tot []).2.1, decide (0 < (getCountF b at_).1) && decide ((getCountF b at_).1 ≤ 8), 0)
     else ([], 0, false, (coinsA b (getCountF b at_).1.toNat (getCountF b at_).2.1 tot []).2.2))
  else ([], 0, false, (getCountF b at_).2.2)
/-- k pages more: all pages, the place behind them, whether all are right, an error -/
def pagesA (b : List Int) : Nat → Int → Nat → List (List Cn) → Bool → List (List Cn) × Int × Bool × Int
  | 0, at_, _, acc, right => (acc, at_, right, 0)
  | k + 1, at_, tot, acc, right =>
    if (pageR b at_ tot).2.2.2 = 0 then pagesA b k (pageR b at_ tot).2.1 (tot + (pageR b at_ tot).1.length) (acc ++ [(pageR b at_ tot).1]) (right && (pageR b at_ tot).2.2.1)
    else ([], 0, false, (pageR b at_ tot).2.2.2)
/-- does each stand behind the one before it? -/
def riseB : List Pt → Bool
  | a :: b :: r => lessF a b && riseB (b :: r)
  | _ => true
def ptsOf (ps : List (List Cn)) : List Pt := ps.flatten.map Cn.p
/-- a table of bytes: its pages, or an error -/
def readTF (b : List Int) : List (List Cn) × Int :=
  if (getCountF b 0).2.2 = 0 then
    (if (pagesA b (getCountF b 0).1.toNat (getCountF b 0).2.1 0 [] true).2.2.2 = 0 then
      (if ((pagesA b (getCountF b 0).1.toNat (getCountF b 0).2.1 0 [] true).2.2.1 && riseB (ptsOf (pagesA b (getCountF b 0).1.toNat (getCountF b 0).2.1 0 [] true).1)) = true ∧ ¬ (pagesA b (getCountF b 0).1.toNat (getCountF b 0).2.1 0 [] true).2.1 < b.length
       then ((pagesA b (getCountF b 0).1.toNat (getCountF b 0).2.1 0 [] true).1, 0) else ([], 5))
     else ([], (pagesA b (getCountF b 0).1.toNat (getCountF b 0).2.1 0 [] true).2.2.2))
  else ([], (getCountF b 0).2.2)

/-! ### coins in a page -/
theorem coinsA_ok {b : List Int} (hB : IsB b) : ∀ (k : Nat) (at_ : Int) (tot : Nat) (acc : List Cn), 0 ≤ at_ → at_ ≤ b.length → tot ≤ 2000 → (∀ c ∈ acc, c.ok ∧ c.l.length ≤ 100) → (coinsA b k at_ tot acc).2.2 = 0 →
    (coinsA b k at_ tot acc).1.length = acc.length + k ∧ tot + k ≤ 2000 ∧ at_ ≤ (coinsA b k at_ tot acc).2.1 ∧ (coinsA b k at_ tot acc).2.1 ≤ b.length ∧ ∀ c ∈ (coinsA b k at_ tot acc).1, c.ok ∧ c.l.length ≤ 100
  | 0, at_, tot, acc, h0, h1, h2, h3, h => ⟨rfl, h2, Int.le_refl _, h1, h3⟩
  | k + 1, at_, tot, acc, h0, h1, h2, h3, h => by
    unfold coinsA at *
    split at h
    · rename_i hg
      split at h
      · cases h
      · rename_i ht
        rw [if_pos hg, if_neg ht]
        obtain ⟨n1, n2, n3⟩ := getCF_next hB hg
        have := coinsA_ok hB k _ (tot + 1) (acc ++ [(getCF b at_).1]) (by omega) n3 (by omega) (fun c hc => by
          rcases List.mem_append.1 hc with hc | hc
          · exact h3 c hc
          · rcases List.mem_singleton.1 hc with rfl
            exact ⟨getCF_ok hB _, getCF_len _ _⟩) h
        obtain ⟨r1, r2, r3, r4, r5⟩ := this
        refine ⟨by rw [r1, List.length_append]; simp; omega, by omega, by omega, r4, r5⟩
    · rename_i hg
      exact absurd h hg
theorem pageR_ok {b : List Int} (hB : IsB b) {at_ : Int} {tot : Nat} (ht : tot ≤ 2000) (h : (pageR b at_ tot).2.2.2 = 0) :
    tot + (pageR b at_ tot).1.length ≤ 2000 ∧ at_ ≤ (pageR b at_ tot).2.1 ∧ 0 ≤ at_ ∧ (pageR b at_ tot).2.1 ≤ b.length ∧ (∀ c ∈ (pageR b at_ tot).1, c.ok ∧ c.l.length ≤ 100) ∧ (pageR b at_ tot).1.length = (getCountF b at_).1.toNat ∧ (pageR b at_ tot).2.2.1 = (decide (0 < (pageR b at_ tot).1.length) && decide ((pageR b at_ tot).1.length ≤ 8)) := by
  unfold pageR at *
  split at h
  · rename_i h1
    split at h
    · rename_i h2
      rw [if_pos h1, if_pos h2]
      obtain ⟨k1, k2, k3, k4, k5⟩ := getCountF_ok hB h1
      obtain ⟨r1, r2, r3, r4, r5⟩ := coinsA_ok hB _ _ tot [] (by omega) k5 ht (fun c hc => by cases hc) h2
      refine ⟨?_, ?_, k3, r4, r5, ?_, ?_⟩
      · show tot + (coinsA b (getCountF b at_).1.toNat (getCountF b at_).2.1 tot []).1.length ≤ 2000
        rw [r1]; simp; omega
      · show at_ ≤ (coinsA b (getCountF b at_).1.toNat (getCountF b at_).2.1 tot []).2.1
        omega
      · show (coinsA b (getCountF b at_).1.toNat (getCountF b at_).2.1 tot []).1.length = _
        rw [r1]; simp
      · show (decide (0 < (getCountF b at_).1) && decide ((getCountF b at_).1 ≤ 8)) = (decide (0 < (coinsA b (getCountF b at_).1.toNat (getCountF b at_).2.1 tot []).1.length) && decide ((coinsA b (getCountF b at_).1.toNat (getCountF b at_).2.1 tot []).1.length ≤ 8))
        rw [r1]
        simp only [List.length_nil, Nat.zero_add]
        congr 1
        · exact decide_eq_decide.2 (by omega)
        · exact decide_eq_decide.2 (by omega)
    · rename_i h2
      exact absurd h h2
  · rename_i h1
    exact absurd h h1

/-! ### rising points -/
theorem riseB_snoc (l : List Pt) (a b : Pt) : riseB (l ++ [a, b]) = (riseB (l ++ [a]) && lessF a b) := by
  induction l with
  | nil => simp [riseB]
  | cons x r ih =>
    cases r with
    | nil => simp only [List.cons_append, List.nil_append, riseB, Bool.and_true]
    | cons y r =>
      simp only [List.cons_append, riseB] at ih ⊢
      rw [ih, Bool.and_assoc]
theorem riseB_of {l : List Pt} : riseB l = true ↔ Rise l := by
  unfold Rise
  induction l with
  | nil => simp [riseB]
  | cons x r ih =>
    cases r with
    | nil => simp [riseB]
    | cons y r =>
      rw [riseB, Bool.and_eq_true, ih]
      constructor
      · rintro ⟨h1, h2⟩
        refine List.pairwise_cons.2 ⟨fun z hz => ?_, h2⟩
        rcases List.mem_cons.1 hz with rfl | hz
        · exact h1
        · exact lessF_trans h1 ((List.pairwise_cons.1 h2).1 z hz)
      · intro h
        exact ⟨(List.pairwise_cons.1 h).1 y (List.mem_cons_self ..), (List.pairwise_cons.1 h).2⟩
theorem riseB_take (l : List Pt) {k : Nat} {a b : Pt} (ha : l[k]? = some a) (hb : l[k + 1]? = some b) : riseB (l.take (k + 2)) = (riseB (l.take (k + 1)) && lessF a b) := by
  rw [take_next hb, take_next ha, List.append_assoc]
  exact riseB_snoc _ a b
end Go.Proofs.Ytofclanljhfkiaa
/- A page that is read. -/
namespace Go.Proofs.Ytofclanljhfkiaa
open Go.RowKit Go.Proofs En Co
set_option linter.unusedVariables false
set_option linter.unusedSimpArgs false
set_option maxRecDepth 20000
attribute [local go_sem ↓] ld_point_eq ld_coin_eq ld_hash_eq st_point_eq st_coin_eq bd_point_eq bd_coin_eq eq_point_eq ne_point_eq al_coin_eq al_point_eq bs_coin_eq
attribute [local go_sem] ld_point_run ld_coin_run ld_hash_run st_point_run st_coin_run bd_point_zero bd_coin_zero bd_point_of bd_coin_of hash_at rowIs_34 rowIs_37 rowIs_both hasAt_both cellsAt_both eq_point_run ne_point_run guard_pt al_coin_run al_point_run al_coin_row al_point_row nil_bytes nil_coins bs_coin_run

theorem Only.cell {w : World} {g i : Nat} (u : Value) : Only w (w.setCell ⟨g, i, none⟩ u) g none := (Only.refl w g none).setCell (.inl rfl) u
theorem kinds_row {w : World} {g : Nat} {xs : Array Value} (h : w.heap[g]? = some (.cells xs 29 (0, 0))) : Kinds w g none := ⟨⟨xs, h⟩, fun k hk => by cases hk⟩
theorem OwnP.tell {w : World} {base g i : Nat} {B : Option Addr} {n c : Nat} {hs : List Cm} {xs : Array Value} (h : OwnP w base B n c hs) (hr : w.heap[g]? = some (.cells xs 29 (0, 0))) (u : Value) : OwnP (w.setCell ⟨g, i, none⟩ u) base B n c hs := h.only (Only.cell u) (kinds_row hr)
/-- another number told -/
theorem Cop.tell {w : World} {base b n n' j k : Nat} {A : Option Addr} {gs : List Pg} (h : Cop w base b n A j k gs) : Cop (w.setCell ⟨b, 2, none⟩ (.int .i64 n')) base b n' A j k gs :=
  ⟨heap_setCell_same _ b 2 _ _ _ h.row, Own.setOther h.pages (fun e => Own.ne_block h.pages h.row (by decide) e) _, fun x hx => ⟨(h.own x hx).1.tell h.row _, (h.own x hx).2⟩⟩
theorem Cop.mono {w : World} {base base' b n j k : Nat} {A : Option Addr} {gs : List Pg} (h : Cop w base b n A j k gs) (hb : base' ≤ base) : Cop w base' b n A j k gs := ⟨h.row, Own.mono h.pages hb, fun x hx => ⟨(h.own x hx).1.mono hb, (h.own x hx).2⟩⟩
theorem OwnP.grown {w w' : World} {base : Nat} {B : Option Addr} {n c : Nat} {hs : List Cm} (h : OwnP w base B n c hs) {row : Option Nat} (hg : w.grownBy w' row) (hrow : ∀ g, row = some g → ∃ xs t, w.heap[g]? = some (.cells xs t (0, 0)) ∧ 57 ≠ t ∧ 5 ≠ t) : OwnP w' base B n c hs := by
  refine ⟨Own.grown h.row hg fun k hk e => ?_, fun m hm => ⟨(h.ok m hm).1, Own.grown (h.ok m hm).2.1 hg fun k hk e => ?_, (h.ok m hm).2.2⟩, h.len⟩
  · obtain ⟨xs, t, h1, h2, _⟩ := hrow k e
    exact Own.ne_block h.row h1 h2 hk
  · obtain ⟨xs, t, h1, _, h2⟩ := hrow k e
    exact Own.ne_block (h.ok m hm).2.1 h1 h2 hk
/-- a row of coins that is not the table's is grown -/
theorem Cop.coins {w w' : World} {base base2 b n j k l d : Nat} {A B : Option Addr} {gs : List Pg} {hs : List Cm} (h : Cop w base b n A j k gs) (ho : OwnP w base2 B l d hs) (hg : w.grownBy w' (blk B)) (hne : ∀ x ∈ gs, ∀ g, blk x.A = some g → blk B ≠ some g) : Cop w' base b n A j k gs := by
  have hkind : ∀ g, blk B = some g → ∃ xs, w.heap[g]? = some (.cells xs 57 (0, 0)) := by
    intro g hg
    rcases ho.row.2 with ⟨rfl, _⟩ | ⟨g', cur, rfl, _, hh, _⟩
    · cases hg
    · have e : g' = g := by simpa [blk] using hg
      subst e
      exact ⟨cur, hh⟩
  refine ⟨?_, Own.grown h.pages hg fun k hk e => ?_, fun x hx => ⟨⟨Own.grown (h.own x hx).1.row hg (hne x hx), fun m hm => ⟨((h.own x hx).1.ok m hm).1, Own.grown ((h.own x hx).1.ok m hm).2.1 hg fun k hk e => ?_, ((h.own x hx).1.ok m hm).2.2⟩, (h.own x hx).1.len⟩, (h.own x hx).2⟩⟩
  · refine (hg.block b (Array.getElem?_eq_some_iff.1 h.row).1 (fun e => ?_)).trans h.row
    exact Own.ne_block ho.row h.row (by decide) e.symm
  · obtain ⟨xs, h1⟩ := hkind k e
    exact Own.ne_block h.pages h1 (by decide) hk
  · obtain ⟨xs, h1⟩ := hkind k e
    exact Own.ne_block ((h.own x hx).1.ok m hm).2.1 h1 (by decide) hk
theorem Arg.past {w0 w : World} {A : Option Addr} {n c : Nat} {b : List Int} (h : Arg w0 A n c b) (hb : Below w0.heap.size w0 w) : Arg w A n c b := h.below hb

/-- a page that is not empty -/
def more1 (cs : List Cn) : List (List Cn) := if cs.length = 0 then [] else [cs]
theorem coinsA_next {b : List Int} {k : Nat} {at_ : Int} {tot : Nat} {acc : List Cn} {d : Cn} {nx q : Int} (hg : getCF b at_ = (d, nx, q)) :
    coinsA b (k + 1) at_ tot acc = if q = 0 then (if tot = 2000 then ([], 0, 3) else coinsA b k nx (tot + 1) (acc ++ [d])) else ([], 0, q) := by
  show (if (getCF b at_).2.2 = 0 then (if tot = 2000 then ([], 0, 3) else coinsA b k (getCF b at_).2.1 (tot + 1) (acc ++ [(getCF b at_).1])) else ([], 0, (getCF b at_).2.2)) = _
  rw [hg]
theorem run_err {r : List Cn × Int × Int} {e : Int} {t cs : List Cn} {y nx q : Int} {z ok : Bool} (h : (if r.2.2 = 0 then (r.1, r.2.1, z, 0) else (([] : List Cn), (0 : Int), false, r.2.2)) = (cs, nx, ok, q)) (hr : r = ([], 0, e)) (he : e ≠ 0) : cs = [] ∧ nx = 0 ∧ ok = false ∧ q = e := by
  subst hr
  simp only [if_neg he, Prod.mk.injEq] at h
  exact ⟨h.1.symm, h.2.1.symm, h.2.2.1.symm, h.2.2.2.symm⟩
theorem run_ok {r : List Cn × Int × Int} {acc cs : List Cn} {y nx q : Int} {z ok : Bool} (h : (if r.2.2 = 0 then (r.1, r.2.1, z, 0) else (([] : List Cn), (0 : Int), false, r.2.2)) = (cs, nx, ok, q)) (hr : r = (acc, y, 0)) : cs = acc ∧ nx = y ∧ ok = z ∧ q = 0 := by
  subst hr
  simp only [if_true, Prod.mk.injEq] at h
  exact ⟨h.1.symm, h.2.1.symm, h.2.2.1.symm, h.2.2.2.symm⟩

/-- what one round of the page's loop knows -/
structure PgR (w0 w wr : World) (g tot m : Nat) (P : Option Addr) (np cp : Nat) (gs : List Pg) (b : List Int) (at0 : Int) (j : Nat) (at_ : Int) (L : Option Addr) (k : Nat) (hs : List Cm) : Prop where
  bel : Below w0.heap.size w0 wr
  cop : Cop wr w0.heap.size g (tot + j) P np cp gs
  own : OwnP wr w.heap.size L j k hs
  sz : w.heap.size ≤ wr.heap.size
  run : coinsA b m at0 tot [] = coinsA b (m - j) at_ (tot + j) (cns hs)
  at0 : 0 ≤ at_
  at1 : at_ ≤ b.length
  tot : tot + j ≤ 2000

set_option maxRecDepth 20000 in
set_option maxHeartbeats 2000000 in
theorem page_any {w0 w : World} {g tot : Nat} {P : Option Addr} {np cp : Nat} {gs : List Pg} {A : Option Addr} {n c : Nat} {b : List Int} {at_ : Int} {cs : List Cn} {nx : Int} {ok : Bool} {q : Int}
    (hb : Arg w0 A n c b) (h0 : Below w0.heap.size w0 w) (h : Cop w w0.heap.size g tot P np cp gs) (hg : w0.heap.size ≤ g) (ht : tot ≤ 2000) (hnp : np ≤ 2000) (ha : -9223372036854775808 ≤ at_ ∧ at_ ≤ 9223372036854775807) (hr : pageR b at_ tot = (cs, nx, ok, q)) :
    Calls Try.prog 76 #[.pointer (some ⟨g, 0, none⟩), .slice A n c, .int .i64 at_] w fun e w' =>
      Below w0.heap.size w0 w' ∧ e = .returned (.tuple #[.int .i64 nx, .bool ok, .int .i64 q]) ∧ (q = 0 → ∃ (P' : Option Addr) (np' cp' : Nat) (gs' : List Pg), Cop w' w0.heap.size g (tot + cs.length) P' np' cp' gs' ∧ pgsOf gs' = pgsOf gs ++ more1 cs) := by
  have hlen := hb.rd.len
  have hn := hb.len
  have hgl := (Array.getElem?_eq_some_iff.1 h.row).1
  obtain ⟨v, x, q1, hgc⟩ : ∃ v x q1, getCountF b at_ = (v, x, q1) := ⟨_, _, _, rfl⟩
  have C := Lib.hid (getCount_is (hb.past h0) ha hgc)
  have HT := Lib.hid (And.intro hb (And.intro h0 h))
  by_cases hq1 : q1 = 0
  · subst hq1
    obtain ⟨k1, k2, k3, k4, k5⟩ := getCountF_ok hb.isB (at_ := at_) (by rw [hgc])
    rw [hgc] at k1 k2 k4 k5
    simp only at k1 k2 k4 k5
    obtain ⟨m, rfl⟩ := Int.eq_ofNat_of_zero_le k1
    unfold pageR at hr
    rw [hgc] at hr
    simp only [Int.toNat_natCast, if_true] at hr
    have HR := Lib.hid hr
    clear hr hgc hb h h0
    go_enter Try.func76, Try.ntmps76
    go_wp2_with (fail)
    refine C.out.mono ?_
    rintro e w1 ⟨rfl, hb1⟩
    have s1 : PgR w0 w w1 g tot m P np cp gs b x 0 x none 0 [] := ⟨HT.out.2.1.trans (hb1.mono HT.out.2.1.size), HT.out.2.2.below hb1, OwnP.nil _ _, hb1.size, rfl, by omega, k5, ht⟩
    clear hb1
    go_wp2_with (fail)
    go_loopw [2, 11, 26] (fun a l i wr => ∃ (j : Nat) (at2 : Int) (L : Option Addr) (k : Nat) (hs : List Cm), j ≤ m ∧ a = .int .i64 at2 ∧ l = .slice L j k ∧ i = .int .u64 j ∧ PgR w0 w wr g tot m P np cp gs b x j at2 L k hs) (fun _ _ i _ => m - (intOf i).toNat)
    case atStart => exact ⟨0, x, none, 0, [], by omega, rfl, rfl, rfl, s1⟩
    case round =>
      clear s1
      obtain ⟨j, at2, L, k, hs, hj, rfl, rfl, rfl, hs1⟩ := hrel
      by_cases hlt : j < m
      · obtain ⟨d, nx2, q2, hgc2⟩ : ∃ d nx2 q2, getCF b at2 = (d, nx2, q2) := ⟨_, _, _, rfl⟩
        have hrun := hs1.run
        rw [show m - j = (m - (j + 1)) + 1 by omega, coinsA_next hgc2] at hrun
        have d1 : decide ((j : Int) < (m : Int)) = true := decide_eq_true (by omega)
        have hdo : d.ok := by have := getCF_ok HT.out.1.isB at2; rw [hgc2] at this; exact this
        have hdl : d.l.length ≤ 100 := by have := getCF_len b at2; rw [hgc2] at this; exact this
        have ht0 := hs1.tot
        have hat0 := hs1.at0
        have hat1 := hs1.at1
        have G := Lib.hid (getC_is (HT.out.1.past hs1.bel) (by omega) hgc2)
        obtain ⟨T, hT⟩ : ∃ T, tot + j = T := ⟨_, rfl⟩
        have hcop := hs1.cop
        rw [hT] at hcop hrun
        have S := Lib.hid (And.intro hs1 (And.intro hcop hrun))
        clear hs1 hcop hrun
        go_wp2_with (fail)
        refine G.out.mono ?_
        rintro e w2 ⟨A3, k3, rfl, ho3, hb3⟩
        have hokd := cc_ok (m := ⟨d, A3, k3⟩) hdo.p
        have sl := slot_self w2 (.cells (cc zm).toArray 57) (cc ⟨d, A3, k3⟩).toArray
        have hbs := bThen hb3 sl
        have cop1 := S.out.2.1.below hbs
        have bel1 := S.out.1.bel.trans (hbs.mono S.out.1.bel.size)
        by_cases hq2 : q2 = 0
        · subst hq2
          have c2 := (row_cells cop1.row 2).1
          have f2 := (row_cells cop1.row 2).2
          have c2 : ((w2.alloc (.cells (cc zm).toArray 57)).setRow w2.heap.size (cc ⟨d, A3, k3⟩).toArray).cell? ⟨g, 2, none⟩ = some (.int .i64 (T : Int)) := c2
          by_cases hT2 : T = 2000
          · have e3 : ((T : Int) == 2000) = true := by rw [hT2]; rfl
            have hX := run_err (t := []) (y := 0) HR.out (S.out.2.2.trans (by rw [if_pos rfl, if_pos hT2])) (by decide)
            have B1 := Lib.hid (And.intro bel1 hX)
            clear cop1 bel1 hbs sl ho3 hb3 hX hT2
            go_wp2_with (fail)
            go_ret3
            obtain ⟨B2, r1, r2, r3, r4⟩ := B1.out
            exact ⟨B2, by rw [r2, r3, r4]; rfl, fun h => by rw [r4] at h; cases h⟩
          · have e3 : ((T : Int) == 2000) = false := by simp; omega
            have hw : IntKind.i64.wrap ((T : Int) + 1) = (T : Int) + 1 := wrap_i64s (by omega)
            have own1 := S.out.1.own.below hbs
            have ownd : OwnB ((w2.alloc (.cells (cc zm).toArray 57)).setRow w2.heap.size (cc ⟨d, A3, k3⟩).toArray) w.heap.size A3 d.l.length k3 d.l := OwnN.mono (OwnN.below ho3 sl) S.out.1.sz
            have cop2 := cop1.tell (n' := T + 1)
            have cop2 : Cop (((w2.alloc (.cells (cc zm).toArray 57)).setRow w2.heap.size (cc ⟨d, A3, k3⟩).toArray).setCell ⟨g, 2, none⟩ (.int .i64 ((T : Int) + 1))) w0.heap.size g (T + 1) P np cp gs := cop2
            have own2 := own1.tell (i := 2) cop1.row (.int .i64 ((T : Int) + 1))
            have ownd2 := Own.only ownd (Only.cell (i := 2) (.int .i64 ((T : Int) + 1))) (kinds_row cop1.row) (by decide) (by decide)
            have bel2 := bel1.setCell (p := ⟨g, 2, none⟩) hg (.int .i64 ((T : Int) + 1))
            have hgl1 := (Array.getElem?_eq_some_iff.1 (S.out.1.cop.below hb3).row).1
            have box1 := both_row w2 (cc zm).toArray 57 (cc ⟨d, A3, k3⟩).toArray
            have box2 := (Below.heap_setCell ((w2.alloc (.cells (cc zm).toArray 57)).setRow w2.heap.size (cc ⟨d, A3, k3⟩).toArray) ⟨g, 2, none⟩ (.int .i64 ((T : Int) + 1)) w2.heap.size (by show w2.heap.size ≠ g; omega)).trans box1
            obtain ⟨u2, v2⟩ := (coin_has (m := ⟨d, A3, k3⟩) hdo.p box2).1
            have hszW : (((w2.alloc (.cells (cc zm).toArray 57)).setRow w2.heap.size (cc ⟨d, A3, k3⟩).toArray).setCell ⟨g, 2, none⟩ (.int .i64 ((T : Int) + 1))).heap.size = w2.heap.size + 1 := by simp
            have orow := one_row (((w2.alloc (.cells (cc zm).toArray 57)).setRow w2.heap.size (cc ⟨d, A3, k3⟩).toArray).setCell ⟨g, 2, none⟩ (.int .i64 ((T : Int) + 1))) ⟨d, A3, k3⟩ hdo.p
            rw [hszW] at orow
            have l3 : Below (((w2.alloc (.cells (cc zm).toArray 57)).setRow w2.heap.size (cc ⟨d, A3, k3⟩).toArray).setCell ⟨g, 2, none⟩ (.int .i64 ((T : Int) + 1))).heap.size (((w2.alloc (.cells (cc zm).toArray 57)).setRow w2.heap.size (cc ⟨d, A3, k3⟩).toArray).setCell ⟨g, 2, none⟩ (.int .i64 ((T : Int) + 1))) ((((w2.alloc (.cells (cc zm).toArray 57)).setRow w2.heap.size (cc ⟨d, A3, k3⟩).toArray).setCell ⟨g, 2, none⟩ (.int .i64 ((T : Int) + 1))).alloc (.cells (cc ⟨d, A3, k3⟩).toArray 57)) := (Below.refl _ _).alloc (Nat.le_refl _) _
            have cop3 := cop2.below l3
            have own3 := own2.below l3
            have ownd3 := OwnN.below ownd2 l3
            have bel3 := bel2.trans (l3.mono bel2.size)
            have sz3 : w.heap.size ≤ w2.heap.size := Nat.le_trans S.out.1.sz hb3.size
            have hzz := l3.size
            have hpg : ∀ x ∈ gs, ∀ g, blk x.A = some g → blk L ≠ some g := fun x hx g h1 h2 => by
              have k1 := (Own.lt (HT.out.2.2.own x hx).1.row g h1).2
              have k2 := (Own.lt S.out.1.own.row g h2).1
              omega
            have X := Lib.hid (And.intro cop3 (And.intro own3 (And.intro ownd3 (And.intro bel3 (And.intro orow hpg)))))
            clear cop1 bel1 hbs sl ho3 hb3 own1 ownd cop2 own2 ownd2 bel2 box1 box2 orow l3 cop3 own3 ownd3 bel3 hgl1 hpg
            go_wp2_with (at_builtin; refine Stop.mk ?_)
            refine Stop.out ?_
            refine wpList_appP _ rfl (.tmp 52) (.tmp 54) rfl w.heap.size L j k hs rfl X.out.2.1 (some ⟨w2.heap.size + 1, 0, none⟩) 1 1 [⟨d, A3, k3⟩] rfl X.out.2.2.2.2.1 rfl (fun z hz => by rcases List.mem_singleton.1 hz with rfl; exact ⟨hdo, X.out.2.2.1, by show d.l.length ≤ _; omega⟩) (by omega) (by omega) ?_
            intro A4 k4 w4 ho4 hg4
            -- have O4 : Only (((((w2.alloc (.cells (cc zm).toArray 57)).setRow w2.heap.size (cc ⟨d, A3, k3⟩).toArray).setCell ⟨g, 2, none⟩ (.int .i64 ((T : Int) + 1))).alloc (.cells (cc ⟨d, A3, k3⟩).toArray 57))) w4 g L := Only.grown hg4
            have bel4 : Below w0.heap.size w0 w4 := X.out.2.2.2.1.grown hg4 X.out.2.2.2.1.size (fun g hg => Nat.le_trans HT.out.2.1.size (Own.lt X.out.2.1.row g hg).1)
            have cop4 := X.out.1.coins X.out.2.1 hg4 X.out.2.2.2.2.2
            have sz4 : w.heap.size ≤ w4.heap.size := by have := hg4.size; omega
            have E4 : coinsA b m x tot [] = coinsA b (m - (j + 1)) nx2 (T + 1) (cns (hs ++ [⟨d, A3, k3⟩])) := by
              rw [S.out.2.2, if_pos trivial, if_neg hT2, cns_append]; rfl
            have hnx := getCF_next HT.out.1.isB (at_ := at2) (by rw [hgc2])
            rw [hgc2] at hnx
            have Y := Lib.hid (And.intro ho4 (And.intro bel4 (And.intro cop4 (And.intro E4 hnx))))
            clear ho4 bel4 cop4 E4 hnx hg4
            go_wp2_with (fail)
            go_roundw
            case rel =>
              obtain ⟨y1, y2, y3, y4, y5⟩ := Y.out
              refine ⟨j + 1, nx2, A4, k4, hs ++ [⟨d, A3, k3⟩], by omega, rfl, rfl, by go_num, ⟨y2, ?_, y1, sz4, ?_, by simp only at y5; omega, y5.2.2, by omega⟩⟩
              · rw [show tot + (j + 1) = T + 1 by omega]; exact y3
              · rw [show tot + (j + 1) = T + 1 by omega]; exact y4
            case measure => simp [intOf]; omega
        · have e2 : (q2 != 0) = true := by simpa using hq2
          have hX := run_err (t := []) (y := 0) HR.out (S.out.2.2.trans (by rw [if_neg hq2])) hq2
          have B1 := Lib.hid (And.intro bel1 hX)
          have N1 := Lib.hid hq2
          clear cop1 bel1 hbs sl ho3 hb3 hq2 hX
          go_wp2_with (fail)
          go_ret3
          obtain ⟨B2, r1, r2, r3, r4⟩ := B1.out
          exact ⟨B2, by rw [r2, r3, r4]; rfl, fun h => by rw [r4] at h; exact absurd h N1.out⟩
      · obtain rfl : j = m := by omega
        have d1 : decide ((j : Int) < (j : Int)) = false := decide_eq_false (by omega)
        have hX := run_ok (y := at2) (acc := cns hs) HR.out (hs1.run.trans (by rw [Nat.sub_self]; rfl))
        have hlh := hs1.own.len
        have ht0 := hs1.tot
        rcases Nat.eq_zero_or_pos j with h0 | h0
        · have d2 : decide ((j : Int) > 0) = false := decide_eq_false (by omega)
          have d3 : decide (0 < (j : Int)) = false := decide_eq_false (by omega)
          have d4 : ¬ (0 < j) := by omega
          have Y := Lib.hid (And.intro hX (And.intro hs1 (And.intro d3 h0)))
          clear hs1 hX h0
          go_wp2_with (fail)
          go_ret3
          obtain ⟨⟨r1, r2, r3, r4⟩, y2, y3, y4⟩ := Y.out
          rw [y3, Bool.false_and] at r3
          refine ⟨y2.bel, by rw [r2, r3, r4]; rfl, fun _ => ⟨P, np, cp, gs, ?_, ?_⟩⟩
          · rw [r1, cns_length, hlh]; exact y2.cop
          · rw [r1]
            unfold more1
            rw [if_pos (by rw [cns_length, hlh, y4]), List.append_nil]
        · have d2 : decide ((j : Int) > 0) = true := decide_eq_true (by omega)
          have d3 : decide (0 < (j : Int)) = true := decide_eq_true (by omega)
          obtain ⟨bb, hbb⟩ : ∃ bb, decide ((j : Int) ≤ 8) = bb := ⟨_, rfl⟩
          have l3 : Below wr.heap.size wr (wr.alloc (.cells #[.slice L j k] 22)) := (Below.refl _ _).alloc (Nat.le_refl _) _
          have c1 := (row_cells hs1.cop.row 1).1
          have c1 : wr.cell? ⟨g, 1, none⟩ = some (.slice P np cp) := c1
          have cop3 := hs1.cop.below l3
          have own3 := (hs1.own.mono HT.out.2.1.size).below l3
          have bel3 := hs1.bel.trans (l3.mono hs1.bel.size)
          have d4 : 0 < j := by omega
          have Y := Lib.hid (And.intro hX (And.intro cop3 (And.intro own3 (And.intro bel3 (And.intro d3 h0)))))
          clear hs1 hX h0 l3 cop3 own3 bel3
          go_wp2_with (at_builtin; refine Stop.mk ?_)
          refine Stop.out ?_
          refine appP _ rfl (.tmp 64) (.tmp 66) rfl w0.heap.size P np cp _ rfl Y.out.2.1.pages ⟨some ⟨wr.heap.size, 0, none⟩, 1, 1, [.slice L j k]⟩ rfl ⟨(Own.lit (base := 0) (e := 22) (size := 1) (G := fun _ => True) wr #[.slice L j k] 1 (Nat.zero_le _) (by decide) rfl (fun _ _ => trivial)).rd, fun u hu => by rcases List.mem_singleton.1 hu with rfl; rfl⟩ (by show np + 1 ≤ _; omega) Y.out.2.2.2.1.size ?_
          intro A4 k4 w4 ho4 hg4
          have cop4 := Cop.next (y := ⟨L, j, k, hs⟩) Y.out.2.1 hg4 ho4 ⟨Y.out.2.2.1, Y.out.2.2.2.2.2, by show j ≤ 1000000; omega⟩
          have r4 := Y.out.2.1.row4 hg4
          have f4 := (row_cells r4 1).2
          have c4 := (row_cells r4 1).1
          have bel4 : Below w0.heap.size w0 w4 := Y.out.2.2.2.1.grown hg4 Y.out.2.2.2.1.size (fun g hg => (Own.lt Y.out.2.1.pages g hg).1)
          have bel5 := bel4.setCell (p := ⟨g, 1, none⟩) hg (.slice A4 (np + 1) k4)
          have V := Lib.hid (And.intro cop4 bel5)
          clear ho4 hg4 cop4 r4 bel4 bel5
          go_wp2_with (fail)
          go_ret3
          obtain ⟨⟨r1, r2, r3, r4⟩, y2, y3, y4, y5, y6⟩ := Y.out
          rw [y5, Bool.true_and, hbb] at r3
          refine ⟨V.out.2, by rw [r2, r3, r4]; rfl, fun _ => ⟨A4, np + 1, k4, gs ++ [⟨L, j, k, hs⟩], ?_, ?_⟩⟩
          · rw [r1, cns_length, hlh]; exact V.out.1
          · rw [r1]
            unfold more1
            rw [if_neg (by rw [cns_length, hlh]; omega)]
            unfold pgsOf
            rw [List.map_append]; rfl
  · have e1 : (q1 == 0) = false := by simpa using hq1
    have hr2 : cs = [] ∧ nx = 0 ∧ ok = false ∧ q = q1 := by
      unfold pageR at hr
      rw [hgc, if_neg hq1] at hr
      simp only [Prod.mk.injEq] at hr
      exact ⟨hr.1.symm, hr.2.1.symm, hr.2.2.1.symm, hr.2.2.2.symm⟩
    obtain ⟨rfl, rfl, rfl, rfl⟩ := hr2
    have H1 := Lib.hid hq1
    clear hr hgc hb h h0 hq1
    go_enter Try.func76, Try.ntmps76
    go_wp2_with (fail)
    refine C.out.mono ?_
    rintro e w1 ⟨rfl, hb1⟩
    have bl := HT.out.2.1.trans (hb1.mono HT.out.2.1.size)
    clear hb1
    go_wp2_with (fail)
    go_ret3
    exact ⟨bl, rfl, fun h => absurd h H1.out⟩
end Go.Proofs.Ytofclanljhfkiaa
