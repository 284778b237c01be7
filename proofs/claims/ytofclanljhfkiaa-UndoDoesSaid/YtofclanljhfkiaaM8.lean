/- Joined texts: CoinO, CoinQ, CoinT, CoinV, CoinU, CoinY. -/
import Derived.Test.YtofclanljhfkiaaM3
import Derived.Test.YtofclanljhfkiaaM7
/- Arguments that are points, coins, outputs, opened. -/
namespace Go.Proofs.Ytofclanljhfkiaa
open Go.RowKit Go.Proofs En Co Go.ChangeShapes Go.WideShapes Go.Joins
set_option linter.unusedVariables false
set_option linter.unusedSimpArgs false
set_option maxRecDepth 20000

section
variable {H : Type} {enc : TypeId × Value → H} {W : World} {base : Nat} {v : Value} {d : DataW H} {ps : List MemPlace}
theorem cells_u8 : Try.prog.cellsOf 5 = 1 := by kernel_rfl
theorem cells_u16 : Try.prog.cellsOf 51 = 1 := by kernel_rfl
theorem cells_u32 : Try.prog.cellsOf 52 = 1 := by kernel_rfl
theorem cells_u64 : Try.prog.cellsOf 55 = 1 := by kernel_rfl
theorem cells_bool : Try.prog.cellsOf 4 = 1 := by kernel_rfl
theorem cells_bytes : Try.prog.cellsOf 40 = 1 := by kernel_rfl
theorem cells_hash : Try.prog.cellsOf 50 = 32 := by kernel_rfl
theorem cells_point : Try.prog.cellsOf 54 = 34 := by kernel_rfl
theorem cells_coin : Try.prog.cellsOf 57 = 37 := by kernel_rfl
theorem bytes_u8 : Try.prog.bytesOf 5 = 1 := by kernel_rfl
theorem wf_u16 {n : Int} (h : (Lit.int .u16 n).wf = true) : 0 ≤ n ∧ n ≤ 65535 := by
  have h1 : IntKind.u16.min = 0 := rfl
  have h2 : IntKind.u16.max = 65535 := rfl
  simp only [Lit.wf, Bool.and_eq_true, decide_eq_true_eq] at h
  omega
theorem wf_u32 {n : Int} (h : (Lit.int .u32 n).wf = true) : 0 ≤ n ∧ n ≤ 4294967295 := by
  have h1 : IntKind.u32.min = 0 := rfl
  have h2 : IntKind.u32.max = 4294967295 := rfl
  simp only [Lit.wf, Bool.and_eq_true, decide_eq_true_eq] at h
  omega
theorem drop_take_one (cs : List Value) (i : Nat) (v : Value) (h : (cs.drop i).take 1 = [v]) : cs[i]? = some v := by
  have := congrArg (fun l => l[0]?) h
  simpa [List.getElem?_take, List.getElem?_drop] using this
/-- a point's cells -/
theorem open_pt {fuel : Nat} {cs : List Value} {y : DataW H × List MemPlace} (hl : cs.length = 34) (h : DataW.trod enc Try.prog W 0 (fun _ => true) true fuel 54 cs = some y) (hs : Small Try.prog 54 y.1) :
    ∃ p : Pt, p.ok ∧ cs = pc p := by
  obtain ⟨y0, n0, h0, s0⟩ := open_field Try.underlying54 h hs (i := 0) rfl
  obtain ⟨y1, n1, h1, s1⟩ := open_field Try.underlying54 h hs (i := 1) rfl
  obtain ⟨y2, n2, h2, s2⟩ := open_field Try.underlying54 h hs (i := 2) rfl
  replace h0 : DataW.trod enc Try.prog W 0 (fun _ => true) true n0 50 ((cs.drop 0).take (Try.prog.cellsOf 50)) = some y0 := h0
  replace h1 : DataW.trod enc Try.prog W 0 (fun _ => true) true n1 51 ((cs.drop 32).take (Try.prog.cellsOf 51)) = some y1 := h1
  replace h2 : DataW.trod enc Try.prog W 0 (fun _ => true) true n2 52 ((cs.drop 33).take (Try.prog.cellsOf 52)) = some y2 := h2
  rw [cells_hash, List.drop_zero] at h0
  rw [cells_u16] at h1
  rw [cells_u32] at h2
  obtain ⟨nn, e1, _, w1⟩ := DataW.trod_int Try.underlying51 h1
  obtain ⟨hh, e2, _, w2⟩ := DataW.trod_int Try.underlying52 h2
  have hx : ∀ i, i < 32 → ∃ z : Int, cs[i]? = some (.int .u8 z) ∧ 0 ≤ z ∧ z ≤ 255 := by
    intro i hi
    obtain ⟨y3, n3, h3⟩ := open_at Try.underlying50 h0 hi
    rw [cells_u8] at h3
    obtain ⟨z, e3, _, w3⟩ := DataW.trod_int Try.underlying5 h3
    have := drop_take_one _ _ _ e3
    rw [Nat.mul_one, List.getElem?_take_of_lt hi] at this
    exact ⟨z, this, bd8 w3⟩
  have hf : ∃ f : Nat → Int, ∀ i, i < 32 → cs[i]? = some (.int .u8 (f i)) ∧ 0 ≤ f i ∧ f i ≤ 255 := by
    refine ⟨fun i => if h : i < 32 then Classical.choose (hx i h) else 0, fun i h => ?_⟩
    simp only [h, dif_pos]
    exact Classical.choose_spec (hx i h)
  obtain ⟨f, hf⟩ := hf
  have hok : Pt.ok ⟨(List.range 32).map f, nn, hh⟩ := ⟨by simp, fun z hz => by
    obtain ⟨i, hi, rfl⟩ := List.mem_map.1 hz
    exact (hf i (List.mem_range.1 hi)).2, wf_u16 w1, wf_u32 w2⟩
  refine ⟨_, hok, ?_⟩
  apply List.ext_getElem?
  intro i
  by_cases h32 : i < 32
  · rw [pc_tx hok i h32, (hf i h32).1]
    congr 2
    rw [List.getD_eq_getElem?_getD, List.getElem?_map, List.getElem?_range h32]
    rfl
  · rcases (show i = 32 ∨ i = 33 ∨ 34 ≤ i by omega) with rfl | rfl | h34
    · rw [pc_n hok, drop_take_one _ _ _ e1]
    · rw [pc_h hok, drop_take_one _ _ _ e2]
    · rw [List.getElem?_eq_none (by omega), List.getElem?_eq_none (by rw [pc_length hok]; exact h34)]
/-- a coin's cells -/
theorem open_cn {fuel : Nat} {cs : List Value} {y : DataW H × List MemPlace} (hl : cs.length = 37) (h : DataW.trod enc Try.prog W 0 (fun _ => true) true fuel 57 cs = some y) (hs : Small Try.prog 57 y.1) :
    ∃ m : Cm, m.ok W ∧ cs = cc m ∧ m.k ≤ 140737488351232 := by
  obtain ⟨y0, n0, h0, s0⟩ := open_field Try.underlying57 h hs (i := 0) rfl
  obtain ⟨y1, n1, h1, s1⟩ := open_field Try.underlying57 h hs (i := 1) rfl
  obtain ⟨y2, n2, h2, s2⟩ := open_field Try.underlying57 h hs (i := 2) rfl
  obtain ⟨y3, n3, h3, s3⟩ := open_field Try.underlying57 h hs (i := 3) rfl
  replace h0 : DataW.trod enc Try.prog W 0 (fun _ => true) true n0 54 ((cs.drop 0).take (Try.prog.cellsOf 54)) = some y0 := h0
  replace h1 : DataW.trod enc Try.prog W 0 (fun _ => true) true n1 55 ((cs.drop 34).take (Try.prog.cellsOf 55)) = some y1 := h1
  replace h2 : DataW.trod enc Try.prog W 0 (fun _ => true) true n2 4 ((cs.drop 35).take (Try.prog.cellsOf 4)) = some y2 := h2
  replace h3 : DataW.trod enc Try.prog W 0 (fun _ => true) true n3 40 ((cs.drop 36).take (Try.prog.cellsOf 40)) = some y3 := h3
  replace s0 : Small Try.prog 54 y0.1 := s0
  replace s3 : Small Try.prog 40 y3.1 := s3
  rw [cells_point, List.drop_zero] at h0
  rw [cells_u64] at h1
  rw [cells_bool] at h2
  rw [cells_bytes] at h3
  obtain ⟨p, hp, ep⟩ := open_pt (by rw [List.length_take]; omega) h0 s0
  obtain ⟨vv, e1, _, w1⟩ := DataW.trod_int Try.underlying55 h1
  obtain ⟨bb, e2, _⟩ := DataW.trod_bool Try.underlying4 h2
  obtain ⟨u, eu⟩ : ∃ u, (cs.drop 36).take 1 = [u] := by
    have : ((cs.drop 36).take 1).length = 1 := by simp; omega
    exact List.length_eq_one_iff.1 this
  rw [eu] at h3
  obtain ⟨A, n, c, b, rfl, ha, hc⟩ := open_bytes Try.underlying40 Try.underlying5 cells_u8 bytes_u8 h3 s3
  have hbl := ha.rd.len
  refine ⟨⟨⟨p, vv, bb, b⟩, A, c⟩, ⟨⟨hp, bdu64 w1, ha.isB⟩, by show Arg W A b.length c b; rw [hbl]; exact ha⟩, ?_, hc⟩
  have hcl := cc_length (m := ⟨⟨p, vv, bb, b⟩, A, c⟩) hp
  obtain ⟨g1, g2, g3⟩ := cc_get (m := ⟨⟨p, vv, bb, b⟩, A, c⟩) hp
  apply List.ext_getElem?
  intro i
  by_cases h34 : i < 34
  · have : (cs.take 34)[i]? = (pc p)[i]? := by rw [ep]
    rw [List.getElem?_take_of_lt h34] at this
    rw [this]
    unfold cc
    rw [List.getElem?_append_left (by rw [pc_length hp]; exact h34)]
  · rcases (show i = 34 ∨ i = 35 ∨ i = 36 ∨ 37 ≤ i by omega) with rfl | rfl | rfl | h37
    · rw [g1, drop_take_one _ _ _ e1]
    · rw [g2, drop_take_one _ _ _ e2]
    · rw [g3, drop_take_one _ _ _ eu]
      unfold Cm.lk
      simp only [hbl]
    · rw [List.getElem?_eq_none (by omega), List.getElem?_eq_none (by rw [hcl]; exact h37)]
theorem okWide_agg {t : TypeId} {fs : Array Field} (hu : Try.prog.underlying t = some (.struct fs)) (hval : Value.okWide Try.prog W .any base t v) : ∃ cs : List Value, v = .agg cs.toArray ∧ cs.length = Try.prog.cellsOf t := by
  obtain ⟨cs, rfl, hsz⟩ := okWide_struct hu hval
  exact ⟨cs.toList, by simp, by simpa using hsz⟩
theorem arg_point (hval : Value.okWide Try.prog W .any base 54 v) (h : DataW.Trod enc Try.prog W 0 (fun _ => true) true 54 v d ps) (hs : Small Try.prog 54 d) :
    ∃ p : Pt, v = .agg (pc p).toArray ∧ p.ok := by
  obtain ⟨cs, rfl, hl⟩ := okWide_agg Try.underlying54 hval
  obtain ⟨fuel, hf⟩ := h
  obtain ⟨p, hp, rfl⟩ := open_pt (by rw [hl]; exact cells_point) (by simpa [Value.cells] using hf) hs
  exact ⟨p, rfl, hp⟩
theorem arg_coin (hval : Value.okWide Try.prog W .any base 57 v) (h : DataW.Trod enc Try.prog W 0 (fun _ => true) true 57 v d ps) (hs : Small Try.prog 57 d) :
    ∃ m : Cm, v = .agg (cc m).toArray ∧ (m.ok W ∧ m.k ≤ 140737488351232) := by
  obtain ⟨cs, rfl, hl⟩ := okWide_agg Try.underlying57 hval
  obtain ⟨fuel, hf⟩ := h
  obtain ⟨m, hm, rfl, hk⟩ := open_cn (by rw [hl]; exact cells_coin) (by simpa [Value.cells] using hf) hs
  exact ⟨m, rfl, hm, hk⟩
end
end Go.Proofs.Ytofclanljhfkiaa
/- The walk of the statement CoinOrders. -/
namespace Go.Proofs.Ytofclanljhfkiaa
open Go.RowKit Go.Proofs En Co
set_option linter.unusedVariables false
set_option linter.unusedSimpArgs false
set_option maxRecDepth 20000
attribute [local go_sem ↓] ld_point_eq ld_coin_eq ld_hash_eq st_point_eq st_coin_eq bd_point_eq bd_coin_eq
attribute [local go_sem] ld_point_run ld_coin_run ld_hash_run st_point_run st_coin_run bd_point_zero bd_coin_zero bd_point_of bd_coin_of hash_at rowIs_34 rowIs_37 rowIs_both hasAt_both cellsAt_both

noncomputable def eqB (cs ds : Array Value) : Bool := @decide (cs = ds) (Classical.propDecidable _)
theorem pc_inj {a b : Pt} (ha : a.ok) (hb : b.ok) (h : (pc a).toArray = (pc b).toArray) : a = b := by
  have h : pc a = pc b := by have := congrArg Array.toList h; simpa using this
  have h1 := List.append_inj h (by rw [ns_length, ns_length, ha.len, hb.len])
  have h2 := h1.2
  simp only [List.cons.injEq, Value.int.injEq, true_and, and_true] at h2
  exact Pt.ext (ns_inj h1.1) h2.1 h2.2
theorem eqB_pc {a b : Pt} (ha : a.ok) (hb : b.ok) : eqB (pc a).toArray (pc b).toArray = decide (a = b) := by
  unfold eqB
  by_cases h : a = b
  · rw [decide_eq_true h]
    exact @decide_eq_true _ (Classical.propDecidable _) (congrArg (fun p => (pc p).toArray) h)
  · rw [decide_eq_false h]
    exact @decide_eq_false _ (Classical.propDecidable _) (fun e => h (pc_inj ha hb e))
def okPts (cs ds : Array Value) : Prop := ∃ a b : Pt, a.ok ∧ b.ok ∧ cs = (pc a).toArray ∧ ds = (pc b).toArray
def eq_point (x y : Value) : Sem Value := binOp .eql 54 x y
theorem eq_point_eq (x y : Value) : binOp .eql 54 x y = eq_point x y := rfl
theorem eq_point_run (w : World) (cs ds : Array Value) (h : okPts cs ds) : (eq_point (.agg cs) (.agg ds)).run Try.prog w = .ok (.bool (eqB cs ds)) w := by
  obtain ⟨a, b, ha, hb, rfl, rfl⟩ := h
  rw [eqB_pc ha hb]
  exact eq_pt w a b ha hb
def ne_point (x y : Value) : Sem Value := binOp .neq 54 x y
theorem ne_point_eq (x y : Value) : binOp .neq 54 x y = ne_point x y := rfl
theorem ne_point_run (w : World) (cs ds : Array Value) (h : okPts cs ds) : (ne_point (.agg cs) (.agg ds)).run Try.prog w = .ok (.bool (!eqB cs ds)) w := by
  obtain ⟨a, b, ha, hb, rfl, rfl⟩ := h
  rw [eqB_pc ha hb]
  exact ne_pt w a b ha hb
attribute [local go_sem ↓] eq_point_eq ne_point_eq
attribute [local go_sem] eq_point_run ne_point_run guard_pt

/-- three points in their boxes -/
abbrev St3 (w : World) (a b c : Pt) (w' : World) : Prop := Below w.heap.size w w' ∧ w'.heap[w.heap.size]? = some (.cells (pc a).toArray 54 (0, 0)) ∧ w'.heap[w.heap.size + 1]? = some (.cells (pc b).toArray 54 (0, 0)) ∧ w'.heap[w.heap.size + 1 + 1]? = some (.cells (pc c).toArray 54 (0, 0)) ∧
  (hasAt w' w.heap.size 0 34 ∧ cellsAt w' w.heap.size 0 34 = (pc a).toArray) ∧ (hasAt w' (w.heap.size + 1) 0 34 ∧ cellsAt w' (w.heap.size + 1) 0 34 = (pc b).toArray) ∧ (hasAt w' (w.heap.size + 1 + 1) 0 34 ∧ cellsAt w' (w.heap.size + 1 + 1) 0 34 = (pc c).toArray)
theorem row_has {w : World} {p : Pt} (hp : p.ok) {g : Nat} {t : TypeId} (hg : w.heap[g]? = some (.cells (pc p).toArray t (0, 0))) : hasAt w g 0 34 ∧ cellsAt w g 0 34 = (pc p).toArray := by
  have hr : w.rangeAt g 0 (pc p) := by
    intro j v hv
    rw [Nat.zero_add, (row_cells hg j).1]
    simpa using hv
  exact ⟨hasAt_of hr (pc_length hp), cellsAt_of hr (pc_length hp)⟩
section
variable {w w' w2 : World} {a b c : Pt}
theorem St3.of (ha : a.ok) (hb : b.ok) (hc : c.ok) (h : Below w.heap.size w w') (h0 : w'.heap[w.heap.size]? = some (.cells (pc a).toArray 54 (0, 0))) (h1 : w'.heap[w.heap.size + 1]? = some (.cells (pc b).toArray 54 (0, 0))) (h2 : w'.heap[w.heap.size + 1 + 1]? = some (.cells (pc c).toArray 54 (0, 0))) : St3 w a b c w' :=
  ⟨h, h0, h1, h2, row_has ha h0, row_has hb h1, row_has hc h2⟩
theorem St3.below (ha : a.ok) (hb : b.ok) (hc : c.ok) (h : St3 w a b c w') (hbl : Below w'.heap.size w' w2) : St3 w a b c w2 :=
  St3.of ha hb hc (bThen h.1 hbl) ((hbl.block _ (Array.getElem?_eq_some_iff.1 h.2.1).1).trans h.2.1) ((hbl.block _ (Array.getElem?_eq_some_iff.1 h.2.2.1).1).trans h.2.2.1) ((hbl.block _ (Array.getElem?_eq_some_iff.1 h.2.2.2.1).1).trans h.2.2.2.1)
theorem St3.drew (ha : a.ok) (hb : b.ok) (hc : c.ok) (h : St3 w a b c w') : St3 w a b c w'.drew := St3.of ha hb hc h.1.drew h.2.1 h.2.2.1 h.2.2.2.1
end
theorem three_box (w : World) (x y z : Obj) : (((w.alloc x).alloc y).alloc z).heap[w.heap.size]? = some x ∧ (((w.alloc x).alloc y).alloc z).heap[w.heap.size + 1]? = some y ∧ (((w.alloc x).alloc y).alloc z).heap[w.heap.size + 1 + 1]? = some z := by
  obtain ⟨h0, h1⟩ := two_box w x y
  refine ⟨(Below.heap_alloc _ _ _ (by simp; omega)).trans h0, (Below.heap_alloc _ _ _ (by simp)).trans h1, ?_⟩
  have h := heap_alloc_new ((w.alloc x).alloc y) z
  have e : ((w.alloc x).alloc y).heap.size = w.heap.size + 1 + 1 := by simp
  rw [e] at h
  exact h

end Go.Proofs.Ytofclanljhfkiaa
/- The walks of the statements CoinPuts and CoinSame. -/
namespace Go.Proofs.Ytofclanljhfkiaa
open Go.RowKit Go.Proofs En Co
set_option linter.unusedVariables false
set_option linter.unusedSimpArgs false
set_option maxRecDepth 20000
attribute [local go_sem ↓] ld_point_eq ld_coin_eq ld_hash_eq st_point_eq st_coin_eq bd_point_eq bd_coin_eq eq_point_eq ne_point_eq
attribute [local go_sem] ld_point_run ld_coin_run ld_hash_run st_point_run st_coin_run bd_point_zero bd_coin_zero bd_point_of bd_coin_of hash_at rowIs_34 rowIs_37 rowIs_both hasAt_both cellsAt_both eq_point_run ne_point_run guard_pt

theorem putCF_len {c : Cn} {p : List Int} {q : Int} (hp : c.p.ok) (h : putCF c = (p, q)) : p.length ≤ 200 := by
  cases hr : mayO c.v c.l with
  | false => rw [putCF_err hr] at h; injection h with h _; rw [← h]; exact Nat.zero_le _
  | true =>
    rw [putCF_ok hr] at h
    injection h with h _
    have hl : c.l.length ≤ 100 := by unfold mayO at hr; exact (of_decide_eq_true hr).2
    have := rowF_length c.l
    rw [← h]
    simp only [List.length_append, putPF_length hp, lowF_length, List.length_cons, List.length_nil]
    omega
theorem coin_has {w : World} {m : Cm} (hp : m.c.p.ok) {g : Nat} {t : TypeId} (hg : w.heap[g]? = some (.cells (cc m).toArray t (0, 0))) :
    (hasAt w g 0 37 ∧ cellsAt w g 0 37 = (cc m).toArray) ∧ (hasAt w g 0 34 ∧ cellsAt w g 0 34 = (pc m.c.p).toArray) := by
  have hr := coin_range hg
  have h4 := (cc_cells hp hg).2.2.2
  exact ⟨⟨hasAt_of hr (cc_length hp), cellsAt_of hr (cc_length hp)⟩, hasAt_of h4 (pc_length hp), cellsAt_of h4 (pc_length hp)⟩

/-! two coins that may be are the same just if their bytes are -/
theorem lowF_inj6 {n m : Int} {k : Nat} (hn : 0 ≤ n ∧ n < 256 ^ k) (hm : 0 ≤ m ∧ m < 256 ^ k) (h : lowF n k = lowF m k) : n = m := by
  have h1 := valF_lowF k n
  have h2 := valF_lowF k m
  rw [h] at h1
  rw [h1] at h2
  rwa [Int.emod_eq_of_lt hn.1 hn.2, Int.emod_eq_of_lt hm.1 hm.2] at h2
theorem putPF_inj {a b : Pt} (ha : a.ok) (hb : b.ok) (h : putPF a = putPF b) : a = b := by
  unfold putPF at h
  have h1 := List.append_inj h (by simp [ha.len, hb.len, lowF_length])
  have h2 := List.append_inj h1.1 (by simp [ha.len, hb.len])
  have hn := ha.n
  have hm := hb.n
  have hh := ha.h
  have hk := hb.h
  exact Pt.ext h2.1 (lowF_inj6 (k := 2) ⟨hn.1, by show a.n < 256 ^ 2; omega⟩ ⟨hm.1, by show b.n < 256 ^ 2; omega⟩ h2.2) (lowF_inj6 (k := 4) ⟨hh.1, by show a.h < 256 ^ 4; omega⟩ ⟨hk.1, by show b.h < 256 ^ 4; omega⟩ h1.2)
theorem rowF_inj {a b : List Int} (ha : a.length ≤ 100) (hb : b.length ≤ 100) (h : rowF a = rowF b) : a = b := by
  unfold rowF countF at h
  rw [if_pos (by omega), if_pos (by omega)] at h
  simp only [List.cons_append, List.nil_append, List.cons.injEq] at h
  exact h.2
theorem putCF_inj {a b : Cn} (ha : a.ok) (hb : b.ok) {p q : List Int} (h1 : putCF a = (p, 0)) (h2 : putCF b = (q, 0)) : (p = q) ↔ a = b := by
  constructor
  · rintro rfl
    cases ra : mayO a.v a.l with
    | false => rw [putCF_err ra] at h1; injection h1 with _ h; exact absurd h (by decide)
    | true =>
      cases rb : mayO b.v b.l with
      | false => rw [putCF_err rb] at h2; injection h2 with _ h; exact absurd h (by decide)
      | true =>
        rw [putCF_ok ra] at h1
        rw [putCF_ok rb] at h2
        injection h1 with e1 _
        injection h2 with e2 _
        rw [← e2] at e1
        have hla : a.l.length ≤ 100 := by unfold mayO at ra; exact (of_decide_eq_true ra).2
        have hlb : b.l.length ≤ 100 := by unfold mayO at rb; exact (of_decide_eq_true rb).2
        have g1 := List.append_inj e1 (by simp [putPF_length ha.p, putPF_length hb.p, lowF_length])
        have g2 := List.append_inj g1.1 (by simp [putPF_length ha.p, putPF_length hb.p, lowF_length])
        have g3 := List.append_inj g2.1 (by simp [putPF_length ha.p, putPF_length hb.p])
        have hva := ha.v
        have hvb := hb.v
        have eb : a.base = b.base := by
          have := (List.cons.inj g2.2).1
          unfold baseF at this
          cases h3 : a.base <;> cases h4 : b.base <;> simp_all
        exact Cn.ext (putPF_inj ha.p hb.p g3.1) (lowF_inj6 (k := 8) ⟨hva.1, by show a.v < 256 ^ 8; omega⟩ ⟨hvb.1, by show b.v < 256 ^ 8; omega⟩ g3.2) eb (rowF_inj hla hlb g1.2)
  · rintro rfl
    rw [h1] at h2
    injection h2

end Go.Proofs.Ytofclanljhfkiaa
/- Rules for the walk: a new variable for a point, for a coin, under a name of its own. -/
namespace Go.Proofs.Ytofclanljhfkiaa
open Go.RowKit Go.Proofs En Co
set_option linter.unusedVariables false
set_option linter.unusedSimpArgs false
set_option maxRecDepth 20000

/-- the zero coin's, the zero point's cells -/
def zm : Cm := ⟨zeroCn, none, 0⟩
def al_coin : Sem Value := Instr.alloc 57 true (.tuple #[])
theorem al_coin_eq : Instr.alloc 57 true (.tuple #[]) = al_coin := rfl
theorem al_coin_run (w : World) : al_coin.run Try.prog w = .ok (.pointer (some ⟨w.heap.size, 0, none⟩)) (w.alloc (.cells (cc zm).toArray 57)) := by
  show (Instr.alloc 57 true (.tuple #[])).run Try.prog w = _
  kernel_rfl
theorem al_coin_row (w : World) : rowIs (w.alloc (.cells (cc zm).toArray 57)) w.heap.size 37 := rowIs_new w _ _ 37 (by decide)
def al_point : Sem Value := Instr.alloc 54 true (.tuple #[])
theorem al_point_eq : Instr.alloc 54 true (.tuple #[]) = al_point := rfl
theorem al_point_run (w : World) : al_point.run Try.prog w = .ok (.pointer (some ⟨w.heap.size, 0, none⟩)) (w.alloc (.cells (pc zeroPt).toArray 54)) := by
  show (Instr.alloc 54 true (.tuple #[])).run Try.prog w = _
  kernel_rfl
theorem al_point_row (w : World) : rowIs (w.alloc (.cells (pc zeroPt).toArray 54)) w.heap.size 34 := rowIs_new w _ _ 34 (by decide)
end Go.Proofs.Ytofclanljhfkiaa
/- The walk of the statement CoinGets. -/
namespace Go.Proofs.Ytofclanljhfkiaa
open Go.RowKit Go.Proofs En Co
set_option linter.unusedVariables false
set_option linter.unusedSimpArgs false
set_option maxRecDepth 20000
attribute [local go_sem ↓] ld_point_eq ld_coin_eq ld_hash_eq st_point_eq st_coin_eq bd_point_eq bd_coin_eq eq_point_eq ne_point_eq al_coin_eq al_point_eq
attribute [local go_sem] ld_point_run ld_coin_run ld_hash_run st_point_run st_coin_run bd_point_zero bd_coin_zero bd_point_of bd_coin_of hash_at rowIs_34 rowIs_37 rowIs_both hasAt_both cellsAt_both eq_point_run ne_point_run guard_pt al_coin_run al_point_run al_coin_row al_point_row

theorem kept {w w' : World} {g : Nat} {o : Obj} (h : w.heap[g]? = some o) (hb : Below w.heap.size w w') : w'.heap[g]? = some o := (hb.block g (Array.getElem?_eq_some_iff.1 h).1).trans h
theorem slot_self (w : World) (o : Obj) (cs : Array Value) : Below w.heap.size w ((w.alloc o).setRow w.heap.size cs) := below_slot (Below.refl _ _) (Nat.le_refl _) o cs
theorem slot2_self (w : World) (o : Obj) (u v : Value) : Below w.heap.size w (((w.alloc o).setCell ⟨w.heap.size, 0, none⟩ u).setCell ⟨w.heap.size, 1, none⟩ v) :=
  (((Below.refl w.heap.size w).alloc (Nat.le_refl _) o).setCell (Nat.le_refl _) u).setCell (Nat.le_refl _) v
theorem slot2_row (w : World) (T : TypeId) (x y u v : Value) : (((w.alloc (.cells #[x, y] T)).setCell ⟨w.heap.size, 0, none⟩ u).setCell ⟨w.heap.size, 1, none⟩ v).heap[w.heap.size]? = some (.cells #[u, v] T (0, 0)) :=
  heap_setCell_same _ _ 1 _ _ v (heap_setCell_same _ _ 0 _ _ u (heap_alloc_new w _))
theorem cm_of {w : World} {base : Nat} {A : Option Addr} {k : Nat} {d : Cn} (hd : d.ok) (hl : d.l.length ≤ 100) (ho : OwnB w base A d.l.length k d.l) : Cm.ok w ⟨d, A, k⟩ :=
  ⟨hd, ho.rd, hd.l, (Own.len_cap ho).1, (Own.len_cap ho).2, by show d.l.length ≤ _; omega⟩
theorem readCF_len (b : List Int) : (readCF b).1.l.length ≤ 100 := by
  unfold readCF
  split
  · split
    · exact Nat.zero_le _
    · exact getCF_len b 0
  · exact Nat.zero_le _
theorem getOF_len (b : List Int) (at_ : Int) : (getOF b at_).2.1.length ≤ 100 := by
  unfold getOF
  split
  · split
    · exact getRowF_small (b := b) (at_ := at_ + 8) (nx := (getRowF b (at_ + 8) 100).2.1) (q := (getRowF b (at_ + 8) 100).2.2) rfl
    · exact Nat.zero_le _
  · exact Nat.zero_le _

end Go.Proofs.Ytofclanljhfkiaa
/- The walk of the statement CoinFresh. -/
namespace Go.Proofs.Ytofclanljhfkiaa
open Go.RowKit Go.Proofs En Co
set_option linter.unusedVariables false
set_option linter.unusedSimpArgs false
set_option maxRecDepth 20000
attribute [local go_sem ↓] ld_point_eq ld_coin_eq ld_hash_eq st_point_eq st_coin_eq bd_point_eq bd_coin_eq eq_point_eq ne_point_eq al_coin_eq al_point_eq
attribute [local go_sem] ld_point_run ld_coin_run ld_hash_run st_point_run st_coin_run bd_point_zero bd_coin_zero bd_point_of bd_coin_of hash_at rowIs_34 rowIs_37 rowIs_both hasAt_both cellsAt_both eq_point_run ne_point_run guard_pt al_coin_run al_point_run al_coin_row al_point_row

/-- the last cell of a coin is written over -/
theorem lock_row {w : World} {g : Nat} {t : TypeId} {m : Cm} (hp : m.c.p.ok) (A : Option Addr) (k : Nat) (hg : w.heap[g]? = some (.cells (cc m).toArray t (0, 0))) :
    (w.setCell ⟨g, 36, none⟩ (.slice A m.c.l.length k)).heap[g]? = some (.cells (cc ⟨m.c, A, k⟩).toArray t (0, 0)) := by
  rw [heap_setCell_same w g 36 _ t _ hg]
  have hl := pc_length hp
  have e : (cc m).toArray.setIfInBounds 36 (.slice A m.c.l.length k) = (cc ⟨m.c, A, k⟩).toArray := by
    rw [List.setIfInBounds_toArray]
    congr 1
    unfold cc Cm.lk
    rw [List.set_append_right _ _ (by omega), hl]
    rfl
  rw [e]
theorem lock_cell {w : World} {g : Nat} {t : TypeId} {m : Cm} (hp : m.c.p.ok) (hg : w.heap[g]? = some (.cells (cc m).toArray t (0, 0))) : w.cell? ⟨g, 36, none⟩ = some (.slice m.A m.c.l.length m.k) := by
  rw [(row_cells hg 36).1]
  have := (cc_get hp).2.2
  simpa [Cm.lk] using this

end Go.Proofs.Ytofclanljhfkiaa
