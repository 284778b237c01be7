/- Joined texts: TabP, TabQ, TabR, TabS, TabT, TabU, TabV, TabM, TabW. -/
import Derived.Test.YtofclanljhfkiaaM12
/- What all answer of no table, and of one that is off. -/
namespace Go.Proofs.Ytofclanljhfkiaa
open Go.RowKit Go.Proofs En Co
set_option linter.unusedVariables false
set_option linter.unusedSimpArgs false
set_option maxRecDepth 20000
attribute [local go_sem ↓] ld_point_eq ld_coin_eq ld_hash_eq st_point_eq st_coin_eq bd_point_eq bd_coin_eq eq_point_eq ne_point_eq al_coin_eq al_point_eq
attribute [local go_sem] ld_point_run ld_coin_run ld_hash_run st_point_run st_coin_run bd_point_zero bd_coin_zero bd_point_of bd_coin_of hash_at rowIs_34 rowIs_37 rowIs_both hasAt_both cellsAt_both eq_point_run ne_point_run guard_pt al_coin_run al_point_run al_coin_row al_point_row nil_bytes nil_coins

/-- a table that is off: none, or a zero one -/
def Off (w : World) (pv : Value) : Prop := pv = .pointer none ∨ ∃ g, pv = .pointer (some ⟨g, 0, none⟩) ∧ w.heap[g]? = some (.cells #[.bool false, .slice none 0 0, .int .i64 0] 29 (0, 0))
theorem Off.below {w w' : World} {pv : Value} (h : Off w pv) (hb : Below w.heap.size w w') : Off w' pv := by
  rcases h with h | ⟨g, h, hg⟩
  · exact .inl h
  · exact .inr ⟨g, h, kept hg hb⟩
theorem Off.calls {w : World} {pv : Value} (h : Off w pv) : Calls Try.prog 56 #[pv] w fun e w' => e = .returned (.bool true) ∧ w' = w := by
  rcases h with rfl | ⟨g, rfl, hg⟩
  · exact off_nil w
  · exact off_at w g false _ _ hg
set_option maxRecDepth 20000 in
set_option maxHeartbeats 400000 in
theorem putN_any (m : Cm) (w : World) (pv : Value) (h : Off w pv) : Calls Try.prog 27 #[pv, .agg (cc m).toArray] w fun e w' => e = .returned (.int .i64 1) ∧ Below w.heap.size w w' := by
  have b0 : Below w.heap.size w (w.alloc (.cells (cc m).toArray 57)) := (Below.refl _ _).alloc (Nat.le_refl _) _
  have C := Lib.hid (h.below b0).calls
  clear h
  go_enter Try.func27, Try.ntmps27
  go_wp2_with (fail)
  refine C.out.mono ?_
  rintro e w1 ⟨rfl, rfl⟩
  go_wp2_with (fail)
  go_ret
  exact ⟨rfl, b0⟩

set_option maxRecDepth 20000 in
set_option maxHeartbeats 400000 in
theorem takeN_any (p : Pt) (w : World) (pv : Value) (h : Off w pv) : Calls Try.prog 30 #[pv, .agg (pc p).toArray] w fun e w' => e = .returned (.tuple #[.agg (cc zm).toArray, .int .i64 1]) ∧ Below w.heap.size w w' := by
  obtain ⟨f0, g0⟩ := two_box w (.cells (pc p).toArray 54) (.cells (cc zm).toArray 57)
  have b0 : Below w.heap.size w ((w.alloc (.cells (pc p).toArray 54)).alloc (.cells (cc zm).toArray 57)) := belA ((Below.refl _ _).alloc (Nat.le_refl _) _) _ (Nat.le_refl _)
  have hr : rowIs ((w.alloc (.cells (pc p).toArray 54)).alloc (.cells (cc zm).toArray 57)) (w.heap.size + 1) 37 := rowIs_of g0 (by simpa using cc_length (m := zm) zeroPt_ok)
  have hokz : okAgg (cc ⟨zeroCn, none, 0⟩).toArray 37 := cc_ok (m := zm) zeroPt_ok
  have C := Lib.hid (h.below b0).calls
  clear h
  go_enter Try.func30, Try.ntmps30
  go_wp2_with (fail)
  refine C.out.mono ?_
  rintro e w1 ⟨rfl, rfl⟩
  go_wp2_with (fail)
  refine bodyPost_ret (res_cell2 Try.results30 rfl (rd_coin_set hr hokz.1)) rfl ?_
  exact ⟨rfl, belSetRow b0 (by omega) _⟩

set_option maxRecDepth 20000 in
set_option maxHeartbeats 400000 in
theorem getN_any (p : Pt) (w : World) (pv : Value) (h : Off w pv) : Calls Try.prog 41 #[pv, .agg (pc p).toArray] w fun e w' => e = .returned (.tuple #[.agg (cc zm).toArray, .int .i64 1]) ∧ Below w.heap.size w w' := by
  obtain ⟨f0, g0⟩ := two_box w (.cells (pc p).toArray 54) (.cells (cc zm).toArray 57)
  have b0 : Below w.heap.size w ((w.alloc (.cells (pc p).toArray 54)).alloc (.cells (cc zm).toArray 57)) := belA ((Below.refl _ _).alloc (Nat.le_refl _) _) _ (Nat.le_refl _)
  have hr : rowIs ((w.alloc (.cells (pc p).toArray 54)).alloc (.cells (cc zm).toArray 57)) (w.heap.size + 1) 37 := rowIs_of g0 (by simpa using cc_length (m := zm) zeroPt_ok)
  have hokz : okAgg (cc ⟨zeroCn, none, 0⟩).toArray 37 := cc_ok (m := zm) zeroPt_ok
  have C := Lib.hid (h.below b0).calls
  clear h
  go_enter Try.func41, Try.ntmps41
  go_wp2_with (fail)
  refine C.out.mono ?_
  rintro e w1 ⟨rfl, rfl⟩
  go_wp2_with (fail)
  refine bodyPost_ret (res_cell2 Try.results41 rfl (rd_coin_set hr hokz.1)) rfl ?_
  exact ⟨rfl, belSetRow b0 (by omega) _⟩

set_option maxRecDepth 20000 in
set_option maxHeartbeats 400000 in
theorem pageN_any (n : Int) (w : World) (pv : Value) (h : Off w pv) : Calls Try.prog 34 #[pv, .int .i64 n] w fun e w' => e = .returned (.tuple #[.slice none 0 0, .int .i64 1]) ∧ Below w.heap.size w w' := by
  have C := Lib.hid h.calls
  clear h
  go_enter Try.func34, Try.ntmps34
  go_wp2_with (fail)
  refine C.out.mono ?_
  rintro e w1 ⟨rfl, rfl⟩
  go_wp2_with (fail)
  go_ret2
  exact ⟨rfl, Below.refl _ _⟩

set_option maxRecDepth 20000 in
set_option maxHeartbeats 400000 in
theorem lenN_any  (w : World) (pv : Value) (h : Off w pv) : Calls Try.prog 31 #[pv] w fun e w' => e = .returned (.int .i64 0) ∧ Below w.heap.size w w' := by
  have C := Lib.hid h.calls
  clear h
  go_enter Try.func31, Try.ntmps31
  go_wp2_with (fail)
  refine C.out.mono ?_
  rintro e w1 ⟨rfl, rfl⟩
  go_wp2_with (fail)
  go_ret
  exact ⟨rfl, Below.refl _ _⟩

set_option maxRecDepth 20000 in
set_option maxHeartbeats 400000 in
theorem bytesN_any  (w : World) (pv : Value) (h : Off w pv) : Calls Try.prog 20 #[pv] w fun e w' => e = .returned (.slice none 0 0) ∧ Below w.heap.size w w' := by
  have C := Lib.hid h.calls
  clear h
  go_enter Try.func20, Try.ntmps20
  go_wp2_with (fail)
  refine C.out.mono ?_
  rintro e w1 ⟨rfl, rfl⟩
  go_wp2_with (fail)
  go_ret
  exact ⟨rfl, Below.refl _ _⟩

set_option maxRecDepth 20000 in
set_option maxHeartbeats 400000 in
theorem allN_any  (w : World) (pv : Value) (h : Off w pv) : Calls Try.prog 19 #[pv] w fun e w' => e = .returned (.slice none 0 0) ∧ Below w.heap.size w w' := by
  have C := Lib.hid h.calls
  clear h
  go_enter Try.func19, Try.ntmps19
  go_wp2_with (fail)
  refine C.out.mono ?_
  rintro e w1 ⟨rfl, rfl⟩
  go_wp2_with (fail)
  go_ret
  exact ⟨rfl, Below.refl _ _⟩

set_option maxRecDepth 20000 in
set_option maxHeartbeats 400000 in
theorem copyN_any  (w : World) (pv : Value) (h : Off w pv) : Calls Try.prog 43 #[pv] w fun e w' => e = .returned (.pointer none) ∧ Below w.heap.size w w' := by
  have C := Lib.hid h.calls
  clear h
  go_enter Try.func43, Try.ntmps43
  go_wp2_with (fail)
  refine C.out.mono ?_
  rintro e w1 ⟨rfl, rfl⟩
  go_wp2_with (fail)
  go_ret
  exact ⟨rfl, Below.refl _ _⟩
set_option maxRecDepth 20000 in
set_option maxHeartbeats 400000 in
theorem sumN_any (w : World) (pv : Value) (h : Off w pv) : Calls Try.prog 32 #[pv] w fun e w' => e = .returned (.int .u64 0) ∧ Below w.heap.size w w' := by
  have C := Lib.hid (allN_any w pv h)
  clear h
  go_enter Try.func32, Try.ntmps32
  go_wp2_with (fail)
  refine C.out.mono ?_
  rintro e w1 ⟨rfl, hb1⟩
  go_wp2_with (fail)
  go_loopw [3, 9] (fun s i wr => s = .int .u64 0 ∧ i = .int .i64 0 ∧ w1 = wr) (fun _ _ _ => 0)
  case atStart => exact ⟨rfl, rfl, rfl⟩
  case round =>
    obtain ⟨rfl, rfl, rfl⟩ := hrel
    go_wp2_with (fail)
    go_ret
    exact ⟨rfl, hb1⟩
end Go.Proofs.Ytofclanljhfkiaa
/- What a change to one table leaves of all else. -/
namespace Go.Proofs.Ytofclanljhfkiaa
open Go.RowKit Go.Proofs En Co
set_option linter.unusedVariables false
set_option linter.unusedSimpArgs false
set_option maxRecDepth 20000

/-- of what there was, the block g and the row of P alone may have turned -/
structure Only (w w' : World) (g : Nat) (P : Option Addr) : Prop where
  os : w'.os = w.os
  tape : w'.tape = w.tape
  output : w'.output = w.output
  size : w.heap.size ≤ w'.heap.size
  block : ∀ k, k < w.heap.size → k ≠ g → blk P ≠ some k → w'.heap[k]? = w.heap[k]?
section
variable {w w' w2 : World} {g : Nat} {P : Option Addr}
theorem Only.of (h : Below w.heap.size w w') : Only w w' g P := ⟨h.os, h.tape, h.output, h.size, fun k hk _ _ => h.block k hk⟩
theorem Only.then (h : Only w w' g P) (k : Below w'.heap.size w' w2) : Only w w2 g P :=
  ⟨k.os.trans h.os, k.tape.trans h.tape, k.output.trans h.output, Nat.le_trans h.size k.size, fun i hi h1 h2 => (k.block i (Nat.lt_of_lt_of_le hi h.size)).trans (h.block i hi h1 h2)⟩
theorem Only.setCell (h : Only w w' g P) {a : Addr} (ha : a.block = g ∨ blk P = some a.block) (u : Value) : Only w (w'.setCell a u) g P :=
  ⟨h.os, h.tape, h.output, Nat.le_trans h.size (by simp), fun k hk h1 h2 => (Below.heap_setCell _ _ _ _ (fun e => by
    rcases ha with ha | ha
    · exact h1 (e.trans ha)
    · exact h2 (by rw [ha, e]))).trans (h.block k hk h1 h2)⟩
theorem Only.below (h : Only w w' g P) {base : Nat} (hb : base ≤ w.heap.size) (hg : base ≤ g) (hP : ∀ k, blk P = some k → base ≤ k) : Below base w w' :=
  ⟨h.os, h.tape, h.output, h.size, fun k hk => h.block k (by omega) (by omega) (fun e => by have := hP k e; omega)⟩
/-- what the blocks g and P are -/
def Kinds (w : World) (g : Nat) (P : Option Addr) : Prop := (∃ xs, w.heap[g]? = some (.cells xs 29 (0, 0))) ∧ ∀ k, blk P = some k → ∃ xs, w.heap[k]? = some (.cells xs 22 (0, 0))
theorem Own.only {base : Nat} {e : TypeId} {size : Nat} {G : Value → Prop} {A : Option Addr} {n c : Nat} {cs : List Value} (h : Own w base e size G A n c cs) (ho : Only w w' g P) (hk : Kinds w g P) (h1 : e ≠ 29) (h2 : e ≠ 22) : Own w' base e size G A n c cs := by
  obtain ⟨⟨xs, hg⟩, hP⟩ := hk
  refine Own.keep h fun k hkA => ho.block k (Own.lt h k hkA).2 (fun e => ?_) (fun e => ?_)
  · subst e; exact Own.ne_block h hg h1 hkA
  · obtain ⟨ys, hy⟩ := hP k e
    exact Own.ne_block h hy h2 hkA
theorem OwnP.only {base : Nat} {B : Option Addr} {n c : Nat} {hs : List Cm} (h : OwnP w base B n c hs) (ho : Only w w' g P) (hk : Kinds w g P) : OwnP w' base B n c hs :=
  ⟨Own.only h.row ho hk (by decide) (by decide), fun m hm => ⟨(h.ok m hm).1, Own.only (h.ok m hm).2.1 ho hk (by decide) (by decide), (h.ok m hm).2.2⟩, h.len⟩
theorem Tab.kinds {base np cp : Nat} {gs : List Pg} (h : Tab w base g P np cp gs) : Kinds w g P := by
  refine ⟨⟨_, h.row⟩, fun k hk => ?_⟩
  rcases h.pages.2 with ⟨rfl, _⟩ | ⟨k', cur, rfl, _, hh, _⟩
  · cases hk
  · have e : k' = k := by simpa [blk] using hk
    subst e
    exact ⟨cur, hh⟩
/-- another table -/
theorem Tab.only {base g2 np cp : Nat} {P2 : Option Addr} {gs : List Pg} (h : Tab w base g2 P2 np cp gs) (ho : Only w w' g P) (hk : Kinds w g P) (hg : g2 ≠ g) (hP : ∀ k, blk P = some k → blk P2 ≠ some k) : Tab w' base g2 P2 np cp gs := by
  refine ⟨h.low, ?_, ?_, fun x hx => ⟨(h.own x hx).1.only ho hk, (h.own x hx).2⟩, h.up, h.most⟩
  · refine (ho.block g2 (Array.getElem?_eq_some_iff.1 h.row).1 hg (fun e => ?_)).trans h.row
    obtain ⟨ys, hy⟩ := hk.2 g2 e
    rw [h.row] at hy
    injection hy with hy
    injection hy with _ hy
    exact absurd hy (by decide)
  · refine Own.keep h.pages fun k hkA => ho.block k (Own.lt h.pages k hkA).2 (fun e => ?_) (fun e => hP k e hkA)
    subst e
    obtain ⟨⟨xs, hx⟩, _⟩ := hk
    exact Own.ne_block h.pages hx (by decide) hkA
end
end Go.Proofs.Ytofclanljhfkiaa
/- A page of a table. -/
namespace Go.Proofs.Ytofclanljhfkiaa
open Go.RowKit Go.Proofs En Co
set_option linter.unusedVariables false
set_option linter.unusedSimpArgs false
set_option maxRecDepth 20000

set_option maxRecDepth 20000 in
set_option maxHeartbeats 1000000 in
theorem pageT_any {w : World} {base g : Nat} {P : Option Addr} {np cp : Nat} {gs : List Pg} (h : Tab w base g P np cp gs) (n : Int) (hn : -9223372036854775808 ≤ n ∧ n ≤ 9223372036854775807) :
    Calls Try.prog 34 #[.pointer (some ⟨g, 0, none⟩), .int .i64 n] w fun e w' =>
      ((¬ (0 ≤ n ∧ n < np) ∧ e = .returned (.tuple #[.slice none 0 0, .int .i64 6])) ∨
       (∃ (k : Nat) (x : Pg) (A : Option Addr) (d : Nat) (hs : List Cm), n = k ∧ gs[k]? = some x ∧ e = .returned (.tuple #[.slice A x.n d, .int .i64 0]) ∧ cns hs = x.cs ∧ OwnP w' w.heap.size A x.n d hs)) ∧ Below w.heap.size w w' := by
  have C := Lib.hid (off_at w g true _ _ h.row)
  have h1 : w.cell? ⟨g, 1, none⟩ = some (.slice P np cp) := (row_cells h.row 1).1
  have hcap := h.arg.cap
  have hmax := h.arg.max
  have hnp := h.np_le
  have HT := Lib.hid h
  clear h
  by_cases hneg : n < 0
  · have d1 : decide (n < 0) = true := decide_eq_true hneg
    go_enter Try.func34, Try.ntmps34
    go_wp2_with (fail)
    refine C.out.mono ?_
    rintro e w1 ⟨rfl, rfl⟩
    go_wp2_with (fail)
    go_ret2
    exact ⟨.inl ⟨by omega, rfl⟩, Below.refl _ _⟩
  · obtain ⟨k, rfl⟩ := Int.eq_ofNat_of_zero_le (show 0 ≤ n by omega)
    by_cases hk : k < np
    · obtain ⟨ad, x, rfl, hx, hxo, hbk, hc⟩ := HT.out.arg.at_ hk
      obtain ⟨hxa, hx0, hxn⟩ := hxo
      have d1 : decide ((k : Int) < 0) = false := decide_eq_false (by omega)
      have d2 : decide ((k : Int) ≥ (np : Int)) = false := decide_eq_false (by omega)
      have i1 : (0 : Int) ≤ (k : Int) := by omega
      have i2 : (k : Int) < (np : Int) := by omega
      have CA := Lib.hid (all_any x.A x.n x.c x.hs w hxa (by omega))
      have HX := Lib.hid hx
      clear hx hxa hneg
      go_enter Try.func34, Try.ntmps34
      go_wp2_with (fail)
      refine C.out.mono ?_
      rintro e w1 ⟨rfl, rfl⟩
      go_wp2_with (fail)
      refine CA.out.mono ?_
      rintro e w2 ⟨A2, d, hs, rfl, hcn, ho2, hb2⟩
      have Z := Lib.hid (And.intro hcn (And.intro ho2 hb2))
      clear hcn ho2 hb2
      go_wp2_with (fail)
      go_ret2
      exact ⟨.inr ⟨k, x, A2, d, hs, rfl, HX.out, rfl, Z.out.1, Z.out.2.1⟩, Z.out.2.2⟩
    · have d1 : decide ((k : Int) < 0) = false := decide_eq_false (by omega)
      have d2 : decide ((k : Int) ≥ (np : Int)) = true := decide_eq_true (by omega)
      clear hneg
      go_enter Try.func34, Try.ntmps34
      go_wp2_with (fail)
      refine C.out.mono ?_
      rintro e w1 ⟨rfl, rfl⟩
      go_wp2_with (fail)
      go_ret2
      exact ⟨.inl ⟨by omega, rfl⟩, Below.refl _ _⟩
end Go.Proofs.Ytofclanljhfkiaa
/- What the coins of a table are worth. -/
namespace Go.Proofs.Ytofclanljhfkiaa
open Go.RowKit Go.Proofs En Co
set_option linter.unusedVariables false
set_option linter.unusedSimpArgs false
set_option maxRecDepth 20000
attribute [local go_sem ↓] ld_point_eq ld_coin_eq ld_hash_eq st_point_eq st_coin_eq bd_point_eq bd_coin_eq eq_point_eq ne_point_eq al_coin_eq al_point_eq
attribute [local go_sem] ld_point_run ld_coin_run ld_hash_run st_point_run st_coin_run bd_point_zero bd_coin_zero bd_point_of bd_coin_of hash_at rowIs_34 rowIs_37 rowIs_both hasAt_both cellsAt_both eq_point_run ne_point_run guard_pt al_coin_run al_point_run al_coin_row al_point_row nil_bytes nil_coins

/-- what coins are worth, as a uint64 -/
def worthF (l : List Cn) : Int := l.foldl (fun s c => IntKind.u64.wrap (s + c.v)) 0
theorem worthF_next {l : List Cn} {j : Nat} {c : Cn} (h : l[j]? = some c) : worthF (l.take (j + 1)) = IntKind.u64.wrap (worthF (l.take j) + c.v) := by
  unfold worthF
  rw [take_next h, List.foldl_append]
  rfl

set_option maxRecDepth 20000 in
set_option maxHeartbeats 1000000 in
theorem sumT_any {w : World} {base g : Nat} {P : Option Addr} {np cp : Nat} {gs : List Pg} (h : Tab w base g P np cp gs) :
    Calls Try.prog 32 #[.pointer (some ⟨g, 0, none⟩)] w fun e w' => e = .returned (.int .u64 (worthF (cns (allC gs)))) ∧ Below w.heap.size w w' := by
  have C := Lib.hid (allT_any h)
  have hmost := h.most
  generalize hn : (allC gs).length = n at *
  have HN := Lib.hid hn
  clear h hn
  go_enter Try.func32, Try.ntmps32
  go_wp2_with (fail)
  refine C.out.mono ?_
  rintro e w1 ⟨A, d, hs, rfl, hcn, ho, hb1⟩
  have hcap := (Own.len_cap ho.row).1
  have hmax := (Own.len_cap ho.row).2
  have Z := Lib.hid (And.intro hcn (And.intro ho hb1))
  clear hcn ho hb1
  go_wp2_with (fail)
  go_loopw [3, 9] (fun s i wr => ∃ j : Nat, j ≤ n ∧ i = .int .i64 j ∧ s = .int .u64 (worthF ((cns hs).take j)) ∧ Below w1.heap.size w1 wr) (fun _ i _ => n - (intOf i).toNat)
  case atStart => exact ⟨0, by omega, rfl, by simp [worthF], Below.refl _ _⟩
  case round =>
    obtain ⟨j, hj, rfl, rfl, hbel⟩ := hrel
    by_cases hlt : j < n
    · obtain ⟨ad, m, rfl, hm, hok, hbk, hc⟩ := (Z.out.2.1.below hbel).arg.at_ hlt
      have hld := ld_coin_at wr (ad.add (j * 37)) m hok.c.p hc
      have hokm := cc_ok hok.c.p
      have sl := slot_self wr (.cells (cc zm).toArray 57) (cc m).toArray
      have hv : ((wr.alloc (.cells (cc zm).toArray 57)).setRow wr.heap.size (cc m).toArray).cell? ⟨wr.heap.size, 34, none⟩ = some (.int .u64 m.c.v) := by
        rw [(row_cells (both_row wr (cc zm).toArray 57 (cc m).toArray) 34).1]
        have := (cc_get hok.c.p).1
        simpa using this
      have hnx : worthF ((cns hs).take (j + 1)) = IntKind.u64.wrap (worthF ((cns hs).take j) + m.c.v) := worthF_next (by unfold cns; rw [List.getElem?_map, hm]; rfl)
      have hz := hbel.size
      have hbel2 := bThen hbel sl
      have X := Lib.hid (And.intro hnx hbel2)
      generalize worthF ((cns hs).take j) = s at *
      clear hc hm hok hnx hbel hbel2 sl
      go_wp2_with (fail)
      go_roundw
      case rel => exact ⟨j + 1, by omega, by go_num, by rw [X.out.1], X.out.2⟩
      case measure => simp [intOf]; omega
    · obtain rfl : n = j := by omega
      have e : (cns hs).take n = cns (allC gs) := by rw [Z.out.1]; exact List.take_of_length_le (by rw [cns_length, HN.out]; exact Nat.le_refl _)
      rw [e]
      have H3 := Lib.hid (bThen Z.out.2.2 hbel)
      clear hbel e
      go_wp2_with (fail)
      go_ret
      exact ⟨rfl, H3.out⟩
end Go.Proofs.Ytofclanljhfkiaa
/- A table as it was: undo.kept, which Do and Back defer. -/
namespace Go.Proofs.Ytofclanljhfkiaa
open Go.RowKit Go.Proofs En Co
set_option linter.unusedVariables false
set_option linter.unusedSimpArgs false
set_option maxRecDepth 20000

set_option maxRecDepth 20000 in
theorem kept_ok (w : World) (pv qv : Value) (b : Nat) (h : w.cell? ⟨b, 0, none⟩ = some (.int .i64 0)) :
    Calls Try.prog 53 #[pv, qv, .pointer (some ⟨b, 0, none⟩)] w fun e w' => e = .returned (.tuple #[]) ∧ w' = w := by
  go_enter Try.func53, Try.ntmps53
  go_wp2_with (fail)
  go_end0
  exact ⟨rfl, rfl⟩
set_option maxRecDepth 20000 in
theorem kept_err (w : World) (g k : Nat) (b : Nat) (q : Int) (x y z : Value) (P : Option Addr) (n c : Nat) (m : Int) (hq : (q == 0) = false) (h : w.cell? ⟨b, 0, none⟩ = some (.int .i64 q))
    (hg : w.heap[g]? = some (.cells #[x, y, z] 29 (0, 0))) (hk : w.heap[k]? = some (.cells #[.bool true, .slice P n c, .int .i64 m] 29 (0, 0))) :
    Calls Try.prog 53 #[.pointer (some ⟨g, 0, none⟩), .pointer (some ⟨k, 0, none⟩), .pointer (some ⟨b, 0, none⟩)] w fun e w' => e = .returned (.tuple #[]) ∧ w' = ((w.setCell ⟨g, 0, none⟩ (.bool true)).setCell ⟨g, 1, none⟩ (.slice P n c)).setCell ⟨g, 2, none⟩ (.int .i64 m) := by
  have k0 : w.cell? ⟨k, 0, none⟩ = some (.bool true) := (row_cells hk 0).1
  have k1 : w.cell? ⟨k, 1, none⟩ = some (.slice P n c) := (row_cells hk 1).1
  have k2 : w.cell? ⟨k, 2, none⟩ = some (.int .i64 m) := (row_cells hk 2).1
  have g0 : w.cell? ⟨g, 0, none⟩ = some x := (row_cells hg 0).1
  have g1 : w.cell? ⟨g, 1, none⟩ = some y := (row_cells hg 1).1
  have g2 : w.cell? ⟨g, 2, none⟩ = some z := (row_cells hg 2).1
  have f0 := (row_cells hg 0).2
  have f1 := (row_cells hg 1).2
  have f2 := (row_cells hg 2).2
  clear hg hk
  go_enter Try.func53, Try.ntmps53
  go_wp2_with (fail)
  go_end0
  exact ⟨rfl, rfl⟩
end Go.Proofs.Ytofclanljhfkiaa
/- Plain law: one page of a table in another's place. -/
namespace Go.Proofs.Ytofclanljhfkiaa
open Go.RowKit Go.Proofs En Co
set_option linter.unusedVariables false
set_option linter.unusedSimpArgs false
set_option maxRecDepth 20000

theorem split_at {α : Type} {l : List α} {i : Nat} {x : α} (h : l[i]? = some x) : l = l.take i ++ x :: l.drop (i + 1) := by
  have hi := (List.getElem?_eq_some_iff.1 h).1
  have e := (List.getElem?_eq_some_iff.1 h).2
  rw [← e, ← List.drop_eq_getElem_cons hi, List.take_append_drop]
theorem set_at {α : Type} {l : List α} {i : Nat} {x : α} (h : l[i]? = some x) (y : α) : l.set i y = l.take i ++ y :: l.drop (i + 1) := by
  have hi := (List.getElem?_eq_some_iff.1 h).1
  rw [List.set_eq_take_append_cons_drop, if_pos hi]
section
variable {gs : List Pg} {i : Nat} {x : Pg}
theorem allC_app (a b : List Pg) : allC (a ++ b) = allC a ++ allC b := by unfold allC; rw [List.flatMap_append]
theorem allC_cons (a : Pg) (b : List Pg) : allC (a :: b) = a.hs ++ allC b := rfl
theorem allP_app (a b : List Pg) : allP (a ++ b) = allP a ++ allP b := by unfold allP; rw [List.flatMap_append]
theorem allP_cons (a : Pg) (b : List Pg) : allP (a :: b) = a.pts ++ allP b := rfl
theorem allP_eq (gs : List Pg) : allP gs = (cns (allC gs)).map Cn.p := by
  induction gs with
  | nil => rfl
  | cons a b ih => rw [allP_cons, allC_cons, cns_append, List.map_append, ih]; rfl
theorem allC_split (h : gs[i]? = some x) : allC gs = allC (gs.take i) ++ (x.hs ++ allC (gs.drop (i + 1))) := by
  have e := split_at h
  calc allC gs = allC (gs.take i ++ x :: gs.drop (i + 1)) := by rw [← e]
    _ = _ := by rw [allC_app, allC_cons]
theorem allC_set (h : gs[i]? = some x) (y : Pg) : allC (gs.set i y) = allC (gs.take i) ++ (y.hs ++ allC (gs.drop (i + 1))) := by
  rw [set_at h, allC_app, allC_cons]
/-- points of which one goes still rise -/
theorem Rise.sub {a b : List Pt} (h : Rise b) (hs : a.Sublist b) : Rise a := List.Pairwise.sublist hs h
/-- a point among points, where it stands -/
theorem Rise.insert {a b : List Pt} {p : Pt} (h : Rise (a ++ b)) (ha : ∀ x ∈ a, lessF x p = true) (hb : ∀ x ∈ b, lessF p x = true) : Rise (a ++ p :: b) := by
  unfold Rise at *
  rw [List.pairwise_append] at h ⊢
  refine ⟨h.1, List.pairwise_cons.2 ⟨hb, h.2.1⟩, fun x hx y hy => ?_⟩
  rcases List.mem_cons.1 hy with rfl | hy
  · exact ha x hx
  · exact h.2.2 x hx y hy
/-- all points of an earlier page are less than the first one of a later page -/
theorem Rise.before {j : Nat} {y z : Pg} (h : Rise (allP gs)) (hj : j < i) (hy : gs[j]? = some y) (hz : gs[i]? = some z) (hn : 0 < z.hs.length) : ∀ a ∈ y.pts, lessF a z.key = true := by
  intro a ha
  have h2 := (List.pairwise_flatMap.1 h).2
  obtain ⟨h1, e1⟩ := List.getElem?_eq_some_iff.1 hy
  obtain ⟨h3, e3⟩ := List.getElem?_eq_some_iff.1 hz
  have := List.pairwise_iff_getElem.1 h2 j i h1 h3 hj
  rw [e1, e3] at this
  exact this a ha z.key (key_mem hn)
/-- a point that is found in a page stands among all points -/
theorem Found.before {p : Pt} {at_ : Nat} {is : Bool} (hf : Found gs p i at_ is) (h : Rise (allP gs)) (hx : gs[i]? = some x) (hn : ∀ y ∈ gs, 0 < y.hs.length) :
    ∀ a ∈ allP (gs.take i) ++ x.pts.take at_, lessF a p = true := by
  rcases hf with ⟨rfl, _⟩ | ⟨x', hx', hs, _, hb, ha, hk⟩
  · simp at hx
  · obtain rfl : x' = x := Option.some.inj (hx'.symm.trans hx)
    intro a hm
    rcases List.mem_append.1 hm with hm | hm
    · obtain ⟨y, hy, hay⟩ := List.mem_flatMap.1 hm
      obtain ⟨j, hj, ej⟩ := List.getElem_of_mem hy
      have hji : j < i := by rw [List.length_take] at hj; omega
      have hjl : j < gs.length := by rw [List.length_take] at hj; omega
      have hyj : gs[j]? = some y := by rw [← ej, List.getElem_take]; exact List.getElem?_eq_getElem hjl
      have h1 := h.before hji hyj hx (hn _ (List.mem_of_getElem? hx)) a hay
      rcases hk (by omega) with h2 | h2
      · exact lessF_trans h1 h2
      · rw [← h2]; exact h1
    · obtain ⟨j, hj, ej⟩ := List.getElem_of_mem hm
      have hja : j < at_ := by rw [List.length_take] at hj; omega
      have hjl : j < x'.pts.length := by rw [List.length_take] at hj; omega
      exact hs.2.1 j a hja (by rw [← ej, List.getElem_take]; exact List.getElem?_eq_getElem hjl)
/-- .. and is less than all behind it, if it is not there -/
theorem Found.after {p : Pt} {at_ : Nat} (hf : Found gs p i at_ false) (h : Rise (allP gs)) (hx : gs[i]? = some x) (hn : ∀ y ∈ gs, 0 < y.hs.length) (hok : ∀ a ∈ allP gs, a.ok) (hp : p.ok) :
    ∀ a ∈ x.pts.drop at_ ++ allP (gs.drop (i + 1)), lessF p a = true := by
  rcases hf with ⟨rfl, _⟩ | ⟨x', hx', hs, his, hb, ha, hk⟩
  · simp at hx
  · obtain rfl : x' = x := Option.some.inj (hx'.symm.trans hx)
    have hne := of_decide_eq_false his.symm
    have hup := (h.page (List.mem_of_getElem? hx)).up
    intro a hm
    rcases List.mem_append.1 hm with hm | hm
    · obtain ⟨j, hj, ej⟩ := List.getElem_of_mem hm
      rw [List.getElem_drop] at ej
      have hjl : at_ + j < x'.pts.length := by rw [List.length_drop] at hj; omega
      have haj : x'.pts[at_ + j]? = some a := by rw [← ej]; exact List.getElem?_eq_getElem hjl
      have h1 := hs.2.2 (at_ + j) a (by omega) haj
      have hap : a ≠ p := by
        intro e
        rcases Nat.eq_zero_or_pos j with rfl | hj0
        · exact hne (by rw [← e]; exact haj)
        · have hb0 : at_ < x'.pts.length := by omega
          have h2 := hup at_ (at_ + j) _ a (by omega) (List.getElem?_eq_getElem hb0) haj
          have h3 := hs.2.2 at_ _ (Nat.le_refl _) (List.getElem?_eq_getElem hb0)
          rw [e] at h2
          rw [h2] at h3
          cases h3
      have h4 := lessF_total (hok a (List.mem_flatMap.2 ⟨x', List.mem_of_getElem? hx, List.mem_of_getElem? haj⟩)) hp hap
      rw [h1] at h4
      cases h5 : lessF p a with
      | true => rfl
      | false => rw [h5] at h4; cases h4
    · obtain ⟨y, hy, hay⟩ := List.mem_flatMap.1 hm
      obtain ⟨j, hj, ej⟩ := List.getElem_of_mem hy
      rw [List.getElem_drop] at ej
      have hjl : i + 1 + j < gs.length := by rw [List.length_drop] at hj; omega
      have hyj : gs[i + 1 + j]? = some y := by rw [← ej]; exact List.getElem?_eq_getElem hjl
      have h1 := ha (i + 1 + j) y (by omega) hyj
      -- the first point of a page is not greater than any of its points
      obtain ⟨k, hk2, ek⟩ := List.getElem_of_mem hay
      have hkey : y.pts[0]? = some y.key := by
        have hp0 := hn y (List.mem_of_getElem? hyj)
        unfold Pg.pts Pg.key cns
        cases hh : y.hs with
        | nil => rw [hh] at hp0; simp at hp0
        | cons m r => simp
      have hak : y.pts[k]? = some a := by rw [← ek]; exact List.getElem?_eq_getElem hk2
      rcases Nat.eq_zero_or_pos k with rfl | hk0
      · rw [hkey] at hak
        rw [← Option.some.inj hak]
        exact h1
      · exact lessF_trans h1 ((h.page (List.mem_of_getElem? hyj)).up 0 k _ a hk0 hkey hak)
end
end Go.Proofs.Ytofclanljhfkiaa
/- A table one of whose pages has another row; a table that has lost a page. -/
namespace Go.Proofs.Ytofclanljhfkiaa
open Go.RowKit Go.Proofs En Co
set_option linter.unusedVariables false
set_option linter.unusedSimpArgs false
set_option maxRecDepth 20000

section
variable {w w' : World} {base g : Nat} {P : Option Addr} {np cp : Nat} {gs : List Pg}
/-- what a table is behind a change: all that must be shown -/
theorem Tab.turn {P' : Option Addr} {np' cp' : Nat} {gs' : List Pg} (h : Tab w base g P np cp gs) (ho : Only w w' g P)
    (hrow : w'.heap[g]? = some (.cells #[.bool true, .slice P' np' cp', .int .i64 (allC gs').length] 29 (0, 0)))
    (hpages : Own w' base 22 1 (fun _ => True) P' np' cp' (gs'.map Pg.cell))
    (hown : ∀ y ∈ gs', y ∈ gs ∨ (OwnP w' base y.A y.n y.c y.hs ∧ 0 < y.n ∧ y.n ≤ 1000000)) (hup : Rise (allP gs')) (hm : (allC gs').length ≤ 2000) : Tab w' base g P' np' cp' gs' := by
  refine ⟨h.low, hrow, hpages, fun y hy => ?_, hup, hm⟩
  rcases hown y hy with hy | hy
  · exact ⟨(h.own y hy).1.only ho h.kinds, (h.own y hy).2⟩
  · exact hy
/-- coins of one's own in a new row: those of an old one, some left out -/
theorem OwnP.fresh {base b2 : Nat} {B A : Option Addr} {n c m d : Nat} {hs ks : List Cm} (h : OwnP w base B n c hs) (ho : Only w w' g P) (hk : Kinds w g P) (hr : Own w' b2 57 37 (fun _ => True) A m d (pcs ks)) (hb : base ≤ b2) (hs' : ∀ x ∈ ks, x ∈ hs) (hl : ks.length = m) : OwnP w' base A m d ks :=
  ⟨Own.mono hr hb, fun x hx => ((h.only ho hk).ok x (hs' x hx)), hl⟩
end
end Go.Proofs.Ytofclanljhfkiaa
/- Pages of coins, in plain Lean: what a table's pages are behind a coin that goes, behind a coin more. -/
namespace Go.Proofs.Ytofclanljhfkiaa
open Go.RowKit Go.Proofs En Co
set_option linter.unusedVariables false
set_option linter.unusedSimpArgs false
set_option maxRecDepth 20000

/-- the pages of a table, as they are -/
def pgsOf (gs : List Pg) : List (List Cn) := gs.map fun x => cns x.hs
/-- pages that have lost a coin -/
def takeP (ps : List (List Cn)) (pg at_ : Nat) : List (List Cn) :=
  if ((ps.getD pg []).eraseIdx at_).length = 0 then ps.eraseIdx pg else ps.set pg ((ps.getD pg []).eraseIdx at_)
/-- a page with a coin more -/
def inP (l : List Cn) (at_ : Nat) (c : Cn) : List Cn := l.take at_ ++ c :: l.drop at_
/-- pages that have got a coin -/
def putP (ps : List (List Cn)) (pg at_ : Nat) (c : Cn) : List (List Cn) :=
  if ps.length = 0 then [[c]]
  else if (inP (ps.getD pg []) at_ c).length ≤ 8 then ps.set pg (inP (ps.getD pg []) at_ c)
  else ps.take pg ++ [(inP (ps.getD pg []) at_ c).take 4, (inP (ps.getD pg []) at_ c).drop 4] ++ ps.drop (pg + 1)

section
variable {gs : List Pg} {pg at_ : Nat} {x : Pg}
theorem pgsOf_length (gs : List Pg) : (pgsOf gs).length = gs.length := by unfold pgsOf; rw [List.length_map]
theorem pgsOf_get (hx : gs[pg]? = some x) : (pgsOf gs).getD pg [] = cns x.hs := by
  unfold pgsOf
  rw [List.getD_eq_getElem?_getD, List.getElem?_map, hx]
  rfl
theorem pgsOf_set (gs : List Pg) (pg : Nat) (y : Pg) : pgsOf (gs.set pg y) = (pgsOf gs).set pg (cns y.hs) := by unfold pgsOf; rw [List.map_set]
theorem pgsOf_erase (gs : List Pg) (pg : Nat) : pgsOf (gs.eraseIdx pg) = (pgsOf gs).eraseIdx pg := by
  unfold pgsOf
  rw [List.eraseIdx_eq_take_drop_succ, List.eraseIdx_eq_take_drop_succ, List.map_append, List.map_take, List.map_drop]
theorem pgsOf_flat (gs : List Pg) : (pgsOf gs).flatten = cns (allC gs) := by
  unfold pgsOf allC cns
  induction gs with
  | nil => rfl
  | cons a b ih => rw [List.map_cons, List.flatten_cons, ih, List.flatMap_cons, List.map_append]
theorem cns_erase (hs : List Cm) (i : Nat) : cns (hs.eraseIdx i) = (cns hs).eraseIdx i := by
  unfold cns
  rw [List.eraseIdx_eq_take_drop_succ, List.eraseIdx_eq_take_drop_succ, List.map_append, List.map_take, List.map_drop]
theorem takeP_keep (hx : gs[pg]? = some x) (h : 2 ≤ x.hs.length) : takeP (pgsOf gs) pg at_ = (pgsOf gs).set pg (cns (x.hs.eraseIdx at_)) := by
  unfold takeP
  rw [pgsOf_get hx, if_neg (by rw [List.length_eraseIdx, cns_length]; split <;> omega), cns_erase]
theorem takeP_drop (hx : gs[pg]? = some x) (h : x.hs.length = 1) (h2 : at_ < x.hs.length) : takeP (pgsOf gs) pg at_ = (pgsOf gs).eraseIdx pg := by
  unfold takeP
  rw [pgsOf_get hx, if_pos (by rw [List.length_eraseIdx, cns_length]; split <;> omega)]
/-- a page in another's place: the coins -/
theorem allC_set_sub (hx : gs[pg]? = some x) {y : Pg} (hy : y.hs.Sublist x.hs) : (allC (gs.set pg y)).Sublist (allC gs) := by
  rw [allC_set hx, allC_split hx]
  exact List.Sublist.append (List.Sublist.refl _) (List.Sublist.append hy (List.Sublist.refl _))
theorem allC_erase (hx : gs[pg]? = some x) : allC (gs.eraseIdx pg) = allC (gs.take pg) ++ allC (gs.drop (pg + 1)) := by
  rw [List.eraseIdx_eq_take_drop_succ, allC_app]
theorem allC_erase_sub (hx : gs[pg]? = some x) : (allC (gs.eraseIdx pg)).Sublist (allC gs) := by
  rw [allC_erase hx, allC_split hx]
  exact List.Sublist.append (List.Sublist.refl _) (List.sublist_append_right _ _)
theorem allC_sub_rise {a b : List Pg} (h : Rise (allP b)) (hs : (allC a).Sublist (allC b)) : Rise (allP a) := by
  rw [allP_eq] at h ⊢
  exact h.sub (List.Sublist.map _ (List.Sublist.map _ hs))
theorem allC_set_len (hx : gs[pg]? = some x) (y : Pg) : (allC (gs.set pg y)).length + x.hs.length = (allC gs).length + y.hs.length := by
  rw [allC_set hx, allC_split hx]
  simp only [List.length_append]
  omega
theorem allC_erase_len (hx : gs[pg]? = some x) : (allC (gs.eraseIdx pg)).length + x.hs.length = (allC gs).length := by
  rw [allC_erase hx, allC_split hx]
  simp only [List.length_append]
  omega
theorem pcs_erase {hs : List Cm} (h : ∀ m ∈ hs, m.c.p.ok) (i : Nat) : (pcs hs).take (i * 37) ++ [] ++ (pcs hs).drop ((i + 1) * 37) = pcs (hs.eraseIdx i) := by
  rw [List.append_nil, pcs_take h, pcs_drop h, ← pcs_append, List.eraseIdx_eq_take_drop_succ]
theorem erase_mem {α : Type} {l : List α} {i : Nat} {y : α} (h : y ∈ l.eraseIdx i) : y ∈ l := List.mem_of_mem_eraseIdx h
end

section
variable {w w' w2 : World} {g : Nat} {P : Option Addr}
theorem Only.setRow (h : Only w w' g P) {k : Nat} (hk : w.heap.size ≤ k) (xs : Array Value) : Only w (w'.setRow k xs) g P :=
  ⟨h.os, h.tape, h.output, Nat.le_trans h.size (by simp), fun i hi h1 h2 => (setRow_other w' k i xs (by omega)).trans (h.block i hi h1 h2)⟩
theorem Only.above (h : Only w w' g P) {B : Nat} {a : World} (hb : Below B a w) (hB : B ≤ w.heap.size) (hg : B ≤ g) (hP : ∀ k, blk P = some k → B ≤ k) : Below B a w' := hb.trans (h.below hB hg hP)
theorem Only.refl (w : World) (g : Nat) (P : Option Addr) : Only w w g P := Only.of (Below.refl _ _)
/-- blocks that a change to one table leaves -/
theorem Only.heap (h : Only w w' g P) {k : Nat} {o : Obj} (ho : w.heap[k]? = some o) (h1 : k ≠ g) (h2 : blk P ≠ some k) : w'.heap[k]? = some o :=
  (h.block k (Array.getElem?_eq_some_iff.1 ho).1 h1 h2).trans ho
end
end Go.Proofs.Ytofclanljhfkiaa
/- A coin that goes: Take. -/
namespace Go.Proofs.Ytofclanljhfkiaa
open Go.RowKit Go.Proofs En Co
set_option linter.unusedVariables false
set_option linter.unusedSimpArgs false
set_option maxRecDepth 20000
attribute [local go_sem ↓] ld_point_eq ld_coin_eq ld_hash_eq st_point_eq st_coin_eq bd_point_eq bd_coin_eq eq_point_eq ne_point_eq al_coin_eq al_point_eq
attribute [local go_sem] ld_point_run ld_coin_run ld_hash_run st_point_run st_coin_run bd_point_zero bd_coin_zero bd_point_of bd_coin_of hash_at rowIs_34 rowIs_37 rowIs_both hasAt_both cellsAt_both eq_point_run ne_point_run guard_pt al_coin_run al_point_run al_coin_row al_point_row nil_bytes nil_coins

set_option maxRecDepth 20000 in
set_option maxHeartbeats 2000000 in
theorem takeT_any {w : World} {base g : Nat} {P : Option Addr} {np cp : Nat} {gs : List Pg} (h : Tab w base g P np cp gs) (p : Pt) (hp : p.ok) :
    Calls Try.prog 30 #[.pointer (some ⟨g, 0, none⟩), .agg (pc p).toArray] w fun e w' =>
      ∃ (pg at_ : Nat) (is : Bool), Found gs p pg at_ is ∧
        ((is = false ∧ e = .returned (.tuple #[.agg (cc zm).toArray, .int .i64 6]) ∧ Below w.heap.size w w') ∨
         (is = true ∧ ∃ (x : Pg) (m : Cm) (P' : Option Addr) (np' cp' : Nat) (gs' : List Pg), gs[pg]? = some x ∧ x.hs[at_]? = some m ∧ e = .returned (.tuple #[.agg (cc m).toArray, .int .i64 0]) ∧ pgsOf gs' = takeP (pgsOf gs) pg at_ ∧ Tab w' base g P' np' cp' gs' ∧ (P' = P ∨ ∀ k, blk P' = some k → w.heap.size ≤ k) ∧ OwnB w' base m.A m.c.l.length m.k m.c.l ∧ Only w w' g P)) := by
  obtain ⟨f0, g0⟩ := two_box w (.cells (pc p).toArray 54) (.cells (cc zm).toArray 57)
  have b0 : Below w.heap.size w ((w.alloc (.cells (pc p).toArray 54)).alloc (.cells (cc zm).toArray 57)) := belA ((Below.refl _ _).alloc (Nat.le_refl _) _) _ (Nat.le_refl _)
  obtain ⟨x0, y0⟩ := row_has hp f0
  have h0 := h.below b0
  have C := Lib.hid (off_at _ g true _ _ h0.row)
  have HT := Lib.hid (And.intro h (And.intro h0 (And.intro g0 b0)))
  clear h f0 g0 b0 h0
  go_enter Try.func30, Try.ntmps30
  go_wp2_with (fail)
  refine C.out.mono ?_
  rintro e w1 ⟨rfl, rfl⟩
  go_wp2_with (fail)
  refine (find_any HT.out.2.1 p hp).mono ?_
  rintro e w2 ⟨pg, at_, is, rfl, hf, hb2⟩
  have g2 := kept HT.out.2.2.1 hb2
  have bl2 := bThen HT.out.2.2.2 hb2
  have hr2 : rowIs w2 (w.heap.size + 1) 37 := rowIs_of g2 (by simpa using cc_length (m := zm) zeroPt_ok)
  have hokz := cc_ok (m := zm) zeroPt_ok
  have hokz2 : okAgg (cc ⟨zeroCn, none, 0⟩).toArray 37 := hokz
  clear hb2 x0 y0
  cases is with
  | false =>
    have Z := Lib.hid (And.intro hf (And.intro hr2 bl2))
    clear hf bl2 g2
    go_wp2_with (fail)
    refine bodyPost_ret (res_cell2 Try.results30 rfl (rd_coin_set Z.out.2.1 hokz.1)) rfl ?_
    exact ⟨pg, at_, false, Z.out.1, .inl ⟨rfl, rfl, belSetRow Z.out.2.2 (by omega) _⟩⟩
  | true =>
    obtain ⟨x, m, hx, hm, hmp⟩ := hf.at_
    have hT2 := HT.out.1.below bl2
    have hpl := (List.getElem?_eq_some_iff.1 hx).1
    have hlen := hT2.len
    have hmost := hT2.most
    have hpn : pg < np := by omega
    obtain ⟨ad, x', rfl, hx', hxo, hbk, hc⟩ := hT2.arg.at_ hpn
    obtain rfl : x' = x := Option.some.inj (hx'.symm.trans hx)
    obtain ⟨hxa, hx0, hxn⟩ := hxo
    have hml := (List.getElem?_eq_some_iff.1 hm).1
    have hxl := hxa.len
    have hxc := hxa.cap
    have hxm := hxa.max
    have han : at_ < x'.n := by omega
    obtain ⟨a2, m', hA, hm', hok, hbk2, hc2⟩ := hxa.at_ han
    obtain rfl : m' = m := Option.some.inj (hm'.symm.trans hm)
    rw [hA] at hc
    have hld := ld_coin_at w2 (a2.add (at_ * 37)) m' hok.c.p hc2
    have h1 : w2.cell? ⟨g, 1, none⟩ = some (.slice (some ad) np cp) := (row_cells hT2.row 1).1
    have hokm := cc_ok hok.c.p
    have i1 : (0 : Int) ≤ (pg : Int) := by omega
    have i2 : (pg : Int) < (np : Int) := by omega
    have i3 : (0 : Int) ≤ (at_ : Int) := by omega
    have i4 : (at_ : Int) < (x'.n : Int) := by omega
    -- the coin's copy, and the table with one coin less
    have sl := slot_self w2 (.cells (cc zm).toArray 57) (cc m').toArray
    have hTs := hT2.below sl
    have c2 : ((w2.alloc (.cells (cc zm).toArray 57)).setRow w2.heap.size (cc m').toArray).cell? ⟨g, 2, none⟩ = some (.int .i64 (allC gs).length) := (row_cells hTs.row 2).1
    have f2 := (row_cells hTs.row 2).2
    have hw : IntKind.i64.wrap (((allC gs).length : Int) - 1) = ((allC gs).length : Int) - 1 := wrap_i64s (by omega)
    have oW : Only w2 (((w2.alloc (.cells (cc zm).toArray 57)).setRow w2.heap.size (cc m').toArray).setCell ⟨g, 2, none⟩ (.int .i64 (((allC gs).length : Int) - 1))) g (some ad) := (Only.of sl).setCell (.inl rfl) _
    have hrow7 := heap_setCell_same _ g 2 _ _ (.int .i64 (((allC gs).length : Int) - 1)) hTs.row
    have h17 := (row_cells hrow7 1).1
    have hPg : ad.block ≠ g := fun e => Own.ne_block hT2.pages hT2.row (by decide) (by rw [← e]; rfl)
    have hc7 : (((w2.alloc (.cells (cc zm).toArray 57)).setRow w2.heap.size (cc m').toArray).setCell ⟨g, 2, none⟩ (.int .i64 (((allC gs).length : Int) - 1))).cell? (ad.add pg) = some (.slice (some a2) x'.n x'.c) := by
      rw [← cell_keep hc sl]
      exact World.cell?_of_block (Below.heap_setCell _ _ _ _ (by rw [block_add]; exact hPg))
    have hown := (hT2.own x' (List.mem_of_getElem? hx)).1
    have hownW := hown.only oW hT2.kinds
    have CS := splicedC_any x'.A x'.n x'.c (pcs x'.hs) at_ (at_ + 1) 1 ⟨none, 0, 0, []⟩ _ ⟨hownW.row.rd, pcs_one⟩ ⟨Rd.nil _ _ _, fun _ h => by cases h⟩ (by omega) (by omega) (by omega) hxc hxm (by show x'.n + 0 ≤ _; omega)
    rw [hA] at CS
    have CS := Lib.hid CS
    -- what the walk will look at behind the cut
    have pg7 := Own.setOther hTs.pages (p := ⟨g, 2, none⟩) (show blk (some ad) ≠ some g from fun e => hPg (by simpa [blk] using e)) (.int .i64 (((allC gs).length : Int) - 1))
    have hgl := (Array.getElem?_eq_some_iff.1 HT.out.1.row).1
    have hgl2 := (Array.getElem?_eq_some_iff.1 hT2.row).1
    have hz1 := (Array.getElem?_eq_some_iff.1 g2).1
    have hkl := fun k hk => (Own.lt HT.out.1.pages k hk).2
    have adl : ad.block < w.heap.size := hkl _ rfl
    have n7 := (Below.heap_setCell ((w2.alloc (.cells (cc zm).toArray 57)).setRow w2.heap.size (cc m').toArray) ⟨g, 2, none⟩ (.int .i64 (((allC gs).length : Int) - 1)) w2.heap.size (by show w2.heap.size ≠ g; omega)).trans (setRow_heap _ _ _ (cc m').toArray _ _ (heap_alloc_new w2 (.cells (cc zm).toArray 57)))
    have z7 := (Below.heap_setCell ((w2.alloc (.cells (cc zm).toArray 57)).setRow w2.heap.size (cc m').toArray) ⟨g, 2, none⟩ (.int .i64 (((allC gs).length : Int) - 1)) (w.heap.size + 1) (by show w.heap.size + 1 ≠ g; omega)).trans (kept g2 sl)
    have oW7 : Only w (((w2.alloc (.cells (cc zm).toArray 57)).setRow w2.heap.size (cc m').toArray).setCell ⟨g, 2, none⟩ (.int .i64 (((allC gs).length : Int) - 1))) g (some ad) := (((Only.of bl2).then sl).setCell (.inl rfl) _)
    have hTw := HT.out.1
    have hown0 := (hTw.own x' (List.mem_of_getElem? hx)).1
    have hpo := hown.arg.pok
    have hml8 : ∀ m ∈ x'.hs, m.c.p.ok := hpo
    have Z := Lib.hid (And.intro hf (And.intro hx (And.intro hm (And.intro hok (And.intro hrow7 (And.intro pg7 (And.intro n7 (And.intro z7 oW7))))))))
    have Y := Lib.hid (And.intro hown0 hml8)
    have hsz7 : w2.heap.size ≤ (((w2.alloc (.cells (cc zm).toArray 57)).setRow w2.heap.size (cc m').toArray).setCell ⟨g, 2, none⟩ (.int .i64 (((allC gs).length : Int) - 1))).heap.size := oW.size
    have hdn : at_ + 0 + (x'.n - (at_ + 1)) = x'.n - 1 := by omega
    clear hf g2 hx hm hx' hm' hok hT2 hTs oW hrow7 hown hownW sl hxa hA hc2 hlen bl2 hkl n7 z7 oW7 hTw hown0 hpo hml8 pg7
    go_wp2_with (fail)
    refine CS.out.mono ?_
    rintro e w8 ⟨A8, d8, rfl, ho8, hb8⟩
    rw [hdn] at ho8
    rw [hdn]
    have r8 := kept Z.out.2.2.2.2.1 hb8
    have p8 := Own.below Z.out.2.2.2.2.2.1 hb8
    have n8 := kept Z.out.2.2.2.2.2.2.1 hb8
    have z8 := kept Z.out.2.2.2.2.2.2.2.1 hb8
    have o8 := Z.out.2.2.2.2.2.2.2.2.then hb8
    have hpe := pcs_erase Y.out.2 at_
    rw [hpe] at ho8
    have ho8 := Own.mono ho8 hsz7
    have hz8 : w2.heap.size ≤ w8.heap.size := Nat.le_trans hsz7 hb8.size
    have c18 := cell_keep h17 hb8
    have cA8 := cell_keep hc7 hb8
    have fA8 : w8.frozen? (ad.add pg) = false := by
      rcases p8.2 with ⟨h, _⟩ | ⟨kb, cur, h, _⟩
      · cases h
      · cases h
        rw [add_new]
        exact Own.frozen p8 pg
    have hadb : ad.block ≠ w2.heap.size := by have := HT.out.2.2.2.size; omega
    have hadb1 : ad.block ≠ w.heap.size + 1 := by omega
    by_cases hn1 : x'.n = 1
    · have d1 : decide (((x'.n - 1 : Nat) : Int) > 0) = false := decide_eq_false (by omega)
      have hpd := (Own.len_cap p8)
      have SP := splicedP_any (some ad) np cp (gs.map Pg.cell) pg (pg + 1) 1 ⟨none, 0, 0, []⟩ w8 ⟨p8.rd, by
        intro u hu
        obtain ⟨y, _, rfl⟩ := List.mem_map.1 hu
        rfl⟩ ⟨Rd.nil _ _ _, fun _ h => by cases h⟩ (by omega) (by omega) (by omega) hpd.1 hpd.2 (by have := HT.out.1.np_le; show np + 0 ≤ _; omega)
      have hdp : pg + 0 + (np - (pg + 1)) = np - 1 := by omega
      rw [hdp] at SP
      have SP := Lib.hid SP
      have X := Lib.hid (And.intro r8 (And.intro n8 (And.intro z8 o8)))
      clear ho8 p8 r8 n8 z8 o8 hb8
      go_wp2_with (fail)
      refine SP.out.mono ?_
      rintro e w9 ⟨B9, e9, rfl, ho9, hb9⟩
      have r9 := kept X.out.1 hb9
      have n9 := kept X.out.2.1 hb9
      have z9 := kept X.out.2.2.1 hb9
      have o9 := X.out.2.2.2.then hb9
      have ho9 := Own.mono ho9 hz8
      have f91 := (row_cells r9 1).2
      have f90 := (row_cells r9 1).1
      have r10 := heap_setCell_same _ g 1 _ _ (.slice B9 (np - 1) e9) r9
      have n10 := (Below.heap_setCell w9 ⟨g, 1, none⟩ (.slice B9 (np - 1) e9) w2.heap.size (by show w2.heap.size ≠ g; omega)).trans n9
      have z10 := (Below.heap_setCell w9 ⟨g, 1, none⟩ (.slice B9 (np - 1) e9) (w.heap.size + 1) (by show w.heap.size + 1 ≠ g; omega)).trans z9
      have o10 := o9.setCell (a := ⟨g, 1, none⟩) (.inl rfl) (.slice B9 (np - 1) e9)
      have p10 := Own.setOther ho9 (p := ⟨g, 1, none⟩) (fun e => by have := (Own.lt ho9 _ e).1; simp only at this; omega) (.slice B9 (np - 1) e9)
      obtain ⟨x10, y10⟩ := (coin_has (m := m') Z.out.2.2.2.1.c.p n10).1
      have hr10 : rowIs (w9.setCell ⟨g, 1, none⟩ (.slice B9 (np - 1) e9)) (w.heap.size + 1) 37 := rowIs_of z10 (by simpa using cc_length (m := zm) zeroPt_ok)
      have V := Lib.hid (And.intro r10 (And.intro o10 p10))
      clear r9 n9 z9 o9 ho9 hb9 r10 n10 z10 o10 p10
      go_wp2_with (fail)
      refine bodyPost_ret (res_cell2 Try.results30 rfl (rd_coin_set hr10 hokm.1)) rfl ?_
      have oF := V.out.2.1.setRow (k := w.heap.size + 1) (by omega) (cc m').toArray
      have hxl2 : x'.hs.length = 1 := by omega
      have hle := allC_erase_len Z.out.2.1
      refine ⟨pg, at_, true, Z.out.1, .inr ⟨rfl, x', m', B9, np - 1, e9, gs.eraseIdx pg, Z.out.2.1, Z.out.2.2.1, rfl, ?_, ?_, .inr (fun k hk => by have := (Own.lt V.out.2.2 k hk).1; omega), ?_, oF⟩⟩
      · rw [takeP_drop Z.out.2.1 hxl2 (by omega), pgsOf_erase]
      · refine Tab.turn HT.out.1 oF ?_ ?_ (fun y hy => .inl (List.mem_of_mem_eraseIdx hy)) (allC_sub_rise HT.out.1.up (allC_erase_sub Z.out.2.1)) (by omega)
        · rw [setRow_other _ _ _ _ (show g ≠ w.heap.size + 1 by omega), V.out.1]
          have e1 : (((allC (gs.eraseIdx pg)).length : Nat) : Int) = ((allC gs).length : Int) - 1 := by omega
          rw [e1]
          rfl
        · have hq := Own.mono V.out.2.2 (show base ≤ w2.heap.size by have := HT.out.1.low; omega)
          have hcells : (gs.map Pg.cell).take pg ++ [] ++ (gs.map Pg.cell).drop (pg + 1) = (gs.eraseIdx pg).map Pg.cell := by
            rw [List.append_nil, List.eraseIdx_eq_take_drop_succ, List.map_append, List.map_take, List.map_drop]
          rw [hcells] at hq
          refine Own.setRowOther hq (fun e => ?_) _
          have h3 := (Own.lt V.out.2.2 _ e).1
          omega
      · exact Own.only (Y.out.1.ok m' (List.mem_of_getElem? Z.out.2.2.1)).2.1 oF HT.out.1.kinds (by decide) (by decide)
    · have d1 : decide (((x'.n - 1 : Nat) : Int) > 0) = true := decide_eq_true (by omega)
      -- the world behind the store
      have r9 := (Below.heap_setCell w8 (ad.add pg) (.slice A8 (x'.n - 1) d8) g (by rw [block_add]; exact fun e => hPg e.symm)).trans r8
      have n9 := (Below.heap_setCell w8 (ad.add pg) (.slice A8 (x'.n - 1) d8) w2.heap.size (by rw [block_add]; exact fun e => hadb e.symm)).trans n8
      have z9 := (Below.heap_setCell w8 (ad.add pg) (.slice A8 (x'.n - 1) d8) (w.heap.size + 1) (by rw [block_add]; exact fun e => hadb1 e.symm)).trans z8
      have o9 : Only w (w8.setCell (ad.add pg) (.slice A8 (x'.n - 1) d8)) g (some ad) := o8.setCell (.inr (by rw [block_add]; rfl)) _
      have a9 := Own.setOther ho8 (p := ad.add pg) (by
        rw [block_add]
        exact fun e => by have := (Own.lt ho8 _ e).1; omega) (.slice A8 (x'.n - 1) d8)
      obtain ⟨x9, y9⟩ := (coin_has (m := m') Z.out.2.2.2.1.c.p n9).1
      have hr9 : rowIs (w8.setCell (ad.add pg) (.slice A8 (x'.n - 1) d8)) (w.heap.size + 1) 37 := rowIs_of z9 (by simpa using cc_length (m := zm) zeroPt_ok)
      have X := Lib.hid (And.intro r9 (And.intro o9 (And.intro a9 (And.intro p8 hr9))))
      clear r9 n9 z9 o9 ho8 p8 r8 n8 z8 o8 hb8 a9
      go_wp2_with (fail)
      refine bodyPost_ret (res_cell2 Try.results30 rfl (rd_coin_set hr9 hokm.1)) rfl ?_
      have oF := X.out.2.1.setRow (k := w.heap.size + 1) (by omega) (cc m').toArray
      have hle := allC_set_len Z.out.2.1 ⟨A8, x'.n - 1, d8, x'.hs.eraseIdx at_⟩
      have hel : (x'.hs.eraseIdx at_).length = x'.n - 1 := by rw [List.length_eraseIdx, if_pos (by omega)]; omega
      have hle : (allC (gs.set pg ⟨A8, x'.n - 1, d8, x'.hs.eraseIdx at_⟩)).length + x'.hs.length = (allC gs).length + (x'.hs.eraseIdx at_).length := hle
      refine ⟨pg, at_, true, Z.out.1, .inr ⟨rfl, x', m', some ad, np, cp, gs.set pg ⟨A8, x'.n - 1, d8, x'.hs.eraseIdx at_⟩, Z.out.2.1, Z.out.2.2.1, rfl, ?_, ?_, .inl rfl, ?_, oF⟩⟩
      · rw [takeP_keep Z.out.2.1 (by omega), pgsOf_set]
      · refine Tab.turn HT.out.1 oF ?_ ?_ (fun y hy => ?_) (allC_sub_rise HT.out.1.up (allC_set_sub Z.out.2.1 (List.eraseIdx_sublist ..))) (by omega)
        · rw [setRow_other _ _ _ _ (show g ≠ w.heap.size + 1 by omega), X.out.1]
          have e1 : (((allC (gs.set pg ⟨A8, x'.n - 1, d8, x'.hs.eraseIdx at_⟩)).length : Nat) : Int) = ((allC gs).length : Int) - 1 := by omega
          rw [e1]
          rfl
        · refine Own.setRowOther (g := w.heap.size + 1) ?_ (fun e => hadb1 (by simpa [blk] using e)) _
          rw [List.map_set]
          have p8 := X.out.2.2.2.1
          rcases p8.2 with ⟨h, _⟩ | ⟨kb, cur, h, _⟩
          · cases h
          · cases h
            rw [add_new]
            exact Own.set p8 pg _ trivial
        · rcases List.mem_or_eq_of_mem_set hy with hy | rfl
          · exact .inl hy
          · refine .inr ⟨OwnP.fresh Y.out.1 oF HT.out.1.kinds (Own.setRowOther X.out.2.2.1 (fun e => ?_) _) (show base ≤ w2.heap.size by have := HT.out.1.low; omega) (fun z hz => List.mem_of_mem_eraseIdx hz) hel, show 0 < x'.n - 1 by omega, show x'.n - 1 ≤ 1000000 by omega⟩
            have h3 := (Own.lt X.out.2.2.1 _ e).1
            omega
      · exact Own.only (Y.out.1.ok m' (List.mem_of_getElem? Z.out.2.2.1)).2.1 oF HT.out.1.kinds (by decide) (by decide)
end Go.Proofs.Ytofclanljhfkiaa
