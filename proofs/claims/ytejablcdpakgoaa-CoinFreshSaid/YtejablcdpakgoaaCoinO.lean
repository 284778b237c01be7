/- Arguments that are points, coins, outputs, opened. -/
import Derived.Test.YtejablcdpakgoaaOpenB
import Derived.Test.YtejablcdpakgoaaCoinN
import Derived.Test.YtejablcdpakgoaaCoinP
namespace Go.Proofs.Ytejablcdpakgoaa
open Go.RowKit Go.Proofs En Co Go.ChangeShapes Go.WideShapes Go.Joins
set_option linter.unusedVariables false
set_option linter.unusedSimpArgs false

section
variable {H : Type} {enc : TypeId × Value → H} {W : World} {base : Nat} {v : Value} {d : DataW H} {ps : List MemPlace}
theorem cells_u8 : Try.prog.cellsOf 5 = 1 := by kernel_rfl
theorem cells_u16 : Try.prog.cellsOf 24 = 1 := by kernel_rfl
theorem cells_u32 : Try.prog.cellsOf 25 = 1 := by kernel_rfl
theorem cells_u64 : Try.prog.cellsOf 28 = 1 := by kernel_rfl
theorem cells_bool : Try.prog.cellsOf 4 = 1 := by kernel_rfl
theorem cells_bytes : Try.prog.cellsOf 29 = 1 := by kernel_rfl
theorem cells_hash : Try.prog.cellsOf 23 = 32 := by kernel_rfl
theorem cells_point : Try.prog.cellsOf 27 = 34 := by kernel_rfl
theorem cells_coin : Try.prog.cellsOf 31 = 37 := by kernel_rfl
theorem cells_out : Try.prog.cellsOf 42 = 2 := by kernel_rfl
theorem bytes_u8 : Try.prog.bytesOf 5 = 1 := by kernel_rfl
theorem wf_u16 {n : Int} (h : (Lit.int .u16 n).wf = true) : 0 ≤ n ∧ n ≤ 65535 := by
  have h1 : IntKind.u16.min = 0 := rfl
  have h2 : IntKind.u16.max = 65535 := rfl
  simp only [Lit.wf, Bool.and_eq_true, decide_eq_true_eq] at h
  omega
theorem wf_u32 {n : Int} (h : (Lit.int .u32 n).wf = true) : 0 ≤ n ∧ n ≤ 4294967295 := by
  have h1 : IntKind.u32.min = 0 := rfl
  have h2 : IntKind.u32.max = 4294967295 := rfl
  simp only [Lit.wf, Bool.and_eq_true, decide_eq_true_eq] at h
  omega
theorem drop_take_one (cs : List Value) (i : Nat) (v : Value) (h : (cs.drop i).take 1 = [v]) : cs[i]? = some v := by
  have := congrArg (fun l => l[0]?) h
  simpa [List.getElem?_take, List.getElem?_drop] using this
/-- a point's cells -/
theorem open_pt {fuel : Nat} {cs : List Value} {y : DataW H × List MemPlace} (hl : cs.length = 34) (h : DataW.trod enc Try.prog W 0 (fun _ => true) true fuel 27 cs = some y) (hs : Small Try.prog 27 y.1) :
    ∃ p : Pt, p.ok ∧ cs = pc p := by
  obtain ⟨y0, n0, h0, s0⟩ := open_field Try.underlying27 h hs (i := 0) rfl
  obtain ⟨y1, n1, h1, s1⟩ := open_field Try.underlying27 h hs (i := 1) rfl
  obtain ⟨y2, n2, h2, s2⟩ := open_field Try.underlying27 h hs (i := 2) rfl
  replace h0 : DataW.trod enc Try.prog W 0 (fun _ => true) true n0 23 ((cs.drop 0).take (Try.prog.cellsOf 23)) = some y0 := h0
  replace h1 : DataW.trod enc Try.prog W 0 (fun _ => true) true n1 24 ((cs.drop 32).take (Try.prog.cellsOf 24)) = some y1 := h1
  replace h2 : DataW.trod enc Try.prog W 0 (fun _ => true) true n2 25 ((cs.drop 33).take (Try.prog.cellsOf 25)) = some y2 := h2
  rw [cells_hash, List.drop_zero] at h0
  rw [cells_u16] at h1
  rw [cells_u32] at h2
  obtain ⟨nn, e1, _, w1⟩ := DataW.trod_int Try.underlying24 h1
  obtain ⟨hh, e2, _, w2⟩ := DataW.trod_int Try.underlying25 h2
  have hx : ∀ i, i < 32 → ∃ z : Int, cs[i]? = some (.int .u8 z) ∧ 0 ≤ z ∧ z ≤ 255 := by
    intro i hi
    obtain ⟨y3, n3, h3⟩ := open_at Try.underlying23 h0 hi
    rw [cells_u8] at h3
    obtain ⟨z, e3, _, w3⟩ := DataW.trod_int Try.underlying5 h3
    have := drop_take_one _ _ _ e3
    rw [Nat.mul_one, List.getElem?_take_of_lt hi] at this
    exact ⟨z, this, bd8 w3⟩
  have hf : ∃ f : Nat → Int, ∀ i, i < 32 → cs[i]? = some (.int .u8 (f i)) ∧ 0 ≤ f i ∧ f i ≤ 255 := by
    refine ⟨fun i => if h : i < 32 then Classical.choose (hx i h) else 0, fun i h => ?_⟩
    simp only [h, dif_pos]
    exact Classical.choose_spec (hx i h)
  obtain ⟨f, hf⟩ := hf
  have hok : Pt.ok ⟨(List.range 32).map f, nn, hh⟩ := ⟨by simp, fun z hz => by
    obtain ⟨i, hi, rfl⟩ := List.mem_map.1 hz
    exact (hf i (List.mem_range.1 hi)).2, wf_u16 w1, wf_u32 w2⟩
  refine ⟨_, hok, ?_⟩
  apply List.ext_getElem?
  intro i
  by_cases h32 : i < 32
  · rw [pc_tx hok i h32, (hf i h32).1]
    congr 2
    rw [List.getD_eq_getElem?_getD, List.getElem?_map, List.getElem?_range h32]
    rfl
  · rcases (show i = 32 ∨ i = 33 ∨ 34 ≤ i by omega) with rfl | rfl | h34
    · rw [pc_n hok, drop_take_one _ _ _ e1]
    · rw [pc_h hok, drop_take_one _ _ _ e2]
    · rw [List.getElem?_eq_none (by omega), List.getElem?_eq_none (by rw [pc_length hok]; exact h34)]
/-- a coin's cells -/
theorem open_cn {fuel : Nat} {cs : List Value} {y : DataW H × List MemPlace} (hl : cs.length = 37) (h : DataW.trod enc Try.prog W 0 (fun _ => true) true fuel 31 cs = some y) (hs : Small Try.prog 31 y.1) :
    ∃ m : Cm, m.ok W ∧ cs = cc m ∧ m.k ≤ 140737488351232 := by
  obtain ⟨y0, n0, h0, s0⟩ := open_field Try.underlying31 h hs (i := 0) rfl
  obtain ⟨y1, n1, h1, s1⟩ := open_field Try.underlying31 h hs (i := 1) rfl
  obtain ⟨y2, n2, h2, s2⟩ := open_field Try.underlying31 h hs (i := 2) rfl
  obtain ⟨y3, n3, h3, s3⟩ := open_field Try.underlying31 h hs (i := 3) rfl
  replace h0 : DataW.trod enc Try.prog W 0 (fun _ => true) true n0 27 ((cs.drop 0).take (Try.prog.cellsOf 27)) = some y0 := h0
  replace h1 : DataW.trod enc Try.prog W 0 (fun _ => true) true n1 28 ((cs.drop 34).take (Try.prog.cellsOf 28)) = some y1 := h1
  replace h2 : DataW.trod enc Try.prog W 0 (fun _ => true) true n2 4 ((cs.drop 35).take (Try.prog.cellsOf 4)) = some y2 := h2
  replace h3 : DataW.trod enc Try.prog W 0 (fun _ => true) true n3 29 ((cs.drop 36).take (Try.prog.cellsOf 29)) = some y3 := h3
  replace s0 : Small Try.prog 27 y0.1 := s0
  replace s3 : Small Try.prog 29 y3.1 := s3
  rw [cells_point, List.drop_zero] at h0
  rw [cells_u64] at h1
  rw [cells_bool] at h2
  rw [cells_bytes] at h3
  obtain ⟨p, hp, ep⟩ := open_pt (by rw [List.length_take]; omega) h0 s0
  obtain ⟨vv, e1, _, w1⟩ := DataW.trod_int Try.underlying28 h1
  obtain ⟨bb, e2, _⟩ := DataW.trod_bool Try.underlying4 h2
  obtain ⟨u, eu⟩ : ∃ u, (cs.drop 36).take 1 = [u] := by
    have : ((cs.drop 36).take 1).length = 1 := by simp; omega
    exact List.length_eq_one_iff.1 this
  rw [eu] at h3
  obtain ⟨A, n, c, b, rfl, ha, hc⟩ := open_bytes Try.underlying29 Try.underlying5 cells_u8 bytes_u8 h3 s3
  have hbl := ha.rd.len
  refine ⟨⟨⟨p, vv, bb, b⟩, A, c⟩, ⟨⟨hp, bdu64 w1, ha.isB⟩, by show Arg W A b.length c b; rw [hbl]; exact ha⟩, ?_, hc⟩
  have hcl := cc_length (m := ⟨⟨p, vv, bb, b⟩, A, c⟩) hp
  obtain ⟨g1, g2, g3⟩ := cc_get (m := ⟨⟨p, vv, bb, b⟩, A, c⟩) hp
  apply List.ext_getElem?
  intro i
  by_cases h34 : i < 34
  · have : (cs.take 34)[i]? = (pc p)[i]? := by rw [ep]
    rw [List.getElem?_take_of_lt h34] at this
    rw [this]
    unfold cc
    rw [List.getElem?_append_left (by rw [pc_length hp]; exact h34)]
  · rcases (show i = 34 ∨ i = 35 ∨ i = 36 ∨ 37 ≤ i by omega) with rfl | rfl | rfl | h37
    · rw [g1, drop_take_one _ _ _ e1]
    · rw [g2, drop_take_one _ _ _ e2]
    · rw [g3, drop_take_one _ _ _ eu]
      unfold Cm.lk
      simp only [hbl]
    · rw [List.getElem?_eq_none (by omega), List.getElem?_eq_none (by rw [hcl]; exact h37)]
theorem okWide_agg {t : TypeId} {fs : Array Field} (hu : Try.prog.underlying t = some (.struct fs)) (hval : Value.okWide Try.prog W .any base t v) : ∃ cs : List Value, v = .agg cs.toArray ∧ cs.length = Try.prog.cellsOf t := by
  obtain ⟨cs, rfl, hsz⟩ := okWide_struct hu hval
  exact ⟨cs.toList, by simp, by simpa using hsz⟩
theorem arg_point (hval : Value.okWide Try.prog W .any base 27 v) (h : DataW.Trod enc Try.prog W 0 (fun _ => true) true 27 v d ps) (hs : Small Try.prog 27 d) :
    ∃ p : Pt, v = .agg (pc p).toArray ∧ p.ok := by
  obtain ⟨cs, rfl, hl⟩ := okWide_agg Try.underlying27 hval
  obtain ⟨fuel, hf⟩ := h
  obtain ⟨p, hp, rfl⟩ := open_pt (by rw [hl]; exact cells_point) (by simpa [Value.cells] using hf) hs
  exact ⟨p, rfl, hp⟩
theorem arg_coin (hval : Value.okWide Try.prog W .any base 31 v) (h : DataW.Trod enc Try.prog W 0 (fun _ => true) true 31 v d ps) (hs : Small Try.prog 31 d) :
    ∃ m : Cm, v = .agg (cc m).toArray ∧ (m.ok W ∧ m.k ≤ 140737488351232) := by
  obtain ⟨cs, rfl, hl⟩ := okWide_agg Try.underlying31 hval
  obtain ⟨fuel, hf⟩ := h
  obtain ⟨m, hm, rfl, hk⟩ := open_cn (by rw [hl]; exact cells_coin) (by simpa [Value.cells] using hf) hs
  exact ⟨m, rfl, hm, hk⟩
theorem arg_out (hval : Value.okWide Try.prog W .any base 42 v) (h : DataW.Trod enc Try.prog W 0 (fun _ => true) true 42 v d ps) (hs : Small Try.prog 42 d) :
    ∃ x A k l, v = .agg #[.int .u64 x, .slice A l.length k] ∧ ((0 ≤ x ∧ x < 18446744073709551616) ∧ Arg W A l.length k l) := by
  obtain ⟨cs, rfl, hl⟩ := okWide_agg Try.underlying42 hval
  obtain ⟨fuel, hf⟩ := h
  have h : DataW.trod enc Try.prog W 0 (fun _ => true) true fuel 42 cs = some (d, ps) := by simpa [Value.cells] using hf
  obtain ⟨y0, n0, h0, s0⟩ := open_field Try.underlying42 h hs (i := 0) rfl
  obtain ⟨y1, n1, h1, s1⟩ := open_field Try.underlying42 h hs (i := 1) rfl
  replace h0 : DataW.trod enc Try.prog W 0 (fun _ => true) true n0 28 ((cs.drop 0).take (Try.prog.cellsOf 28)) = some y0 := h0
  replace h1 : DataW.trod enc Try.prog W 0 (fun _ => true) true n1 29 ((cs.drop 1).take (Try.prog.cellsOf 29)) = some y1 := h1
  replace s1 : Small Try.prog 29 y1.1 := s1
  rw [cells_u64] at h0
  rw [cells_bytes] at h1
  rw [cells_out] at hl
  match cs, hl with
  | [c0, c1], _ =>
    simp only [List.drop_zero, List.take_succ_cons, List.take_zero, List.drop_succ_cons] at h0 h1
    obtain ⟨n, hc0, _, hwf⟩ := DataW.trod_int Try.underlying28 h0
    obtain ⟨A, m, c, b, rfl, ha, _⟩ := open_bytes Try.underlying29 Try.underlying5 cells_u8 bytes_u8 h1 s1
    have e0 := (List.cons.inj hc0).1
    subst e0
    have hbl := ha.rd.len
    subst hbl
    exact ⟨n, A, c, b, rfl, bdu64 hwf, ha⟩
end
end Go.Proofs.Ytejablcdpakgoaa
