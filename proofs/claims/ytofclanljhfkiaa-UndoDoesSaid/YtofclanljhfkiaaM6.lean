/- Joined texts: CoinG, CoinS, CoinH, CoinI. -/
import Derived.Test.YtofclanljhfkiaaM5
/- What the reference's May and Put, and both PutOut answer. -/
namespace Go.Proofs.Ytofclanljhfkiaa
open Go.RowKit Go.Proofs En Co
set_option linter.unusedVariables false
set_option linter.unusedSimpArgs false
set_option maxRecDepth 20000
attribute [local go_sem ↓] ld_point_eq ld_coin_eq ld_hash_eq
attribute [local go_sem] ld_point_run ld_coin_run ld_hash_run

theorem coin_range {w : World} {m : Cm} {g : Nat} {t : TypeId} (hg : w.heap[g]? = some (.cells (cc m).toArray t (0, 0))) : w.rangeAt g 0 (cc m) := by
  intro j v hv
  rw [Nat.zero_add, cell_of_row w g j _ _ _ hg]
  simpa using hv

set_option maxRecDepth 10000 in
set_option maxHeartbeats 400000 in
theorem rmay06_any (m : Cm) (w : World) (hm : m.ok w) :
    Calls Try.prog 28 #[.agg (cc m).toArray] w fun e w' => e = .returned (.bool (mayO m.c.v m.c.l)) ∧ Below w.heap.size w w' := by
  have hS0 : StC w m (w.alloc (.cells (cc m).toArray 57)) := StC.of hm.c.p ⟨(Below.refl _ _).alloc (Nat.le_refl _) _, heap_alloc_new w _⟩
  have h34 := hS0.2.1
  have h36 := hS0.2.2.2.1
  have BL := Lib.hid hS0.1.1
  have C := fun w' => mayOut_any m.c.v m.A m.c.l.length m.k w' hm.c.v (by have := hm.arg.len; omega)
  rw [mayN_eq] at C
  have C := Lib.hid C
  clear hS0
  generalize mayO m.c.v m.c.l = r at *
  go_enter Try.func28, Try.ntmps28
  go_wp2_with (fail)
  refine (C.out _).mono ?_
  rintro e w1 ⟨rfl, hb1⟩
  have hbl := BL.out.trans (hb1.mono (by simp))
  clear hb1
  go_wp2_with (fail)
  go_ret
  exact ⟨rfl, hbl⟩

set_option maxRecDepth 10000 in
set_option maxHeartbeats 1000000 in
theorem rput06_any (m : Cm) (w : World) (hm : m.ok w) :
    Calls Try.prog 88 #[.agg (cc m).toArray] w fun e w' => ∃ A k, e = .returned (.tuple #[.slice A (putCF m.c).1.length k, .int .i64 (putCF m.c).2]) ∧ OwnB w' w.heap.size A (putCF m.c).1.length k (putCF m.c).1 ∧ Below w.heap.size w w' := by
  have hv := hm.c.v
  have hn := hm.arg.len
  have hS0 : StC w m (w.alloc (.cells (cc m).toArray 57)) := StC.of hm.c.p ⟨(Below.refl _ _).alloc (Nat.le_refl _) _, heap_alloc_new w _⟩
  have hR := coin_range hS0.1.2
  have hh1 := hasAt_of hR (cc_length hm.c.p)
  have hh2 := cellsAt_of hR (cc_length hm.c.p)
  have CM := Lib.hid (rmay06_any m _ (hm.below ((Below.refl w.heap.size w).alloc (Nat.le_refl _) (.cells (cc m).toArray 57))))
  clear hR
  cases hr : mayO m.c.v m.c.l with
  | false =>
    rw [putCF_err hr]
    rw [hr] at CM
    have BL := Lib.hid hS0.1.1
    clear hS0 hr
    go_enter Try.func88, Try.ntmps88
    go_wp2_with (fail)
    refine CM.out.mono ?_
    rintro e w1 ⟨rfl, hb1⟩
    have hbl := BL.out.trans (hb1.mono (by simp))
    go_wp2_with (fail)
    go_ret2
    exact ⟨none, 0, rfl, OwnN.nil _ _ _ _, hbl⟩
  | true =>
    have hl100 : m.c.l.length ≤ 100 := by unfold mayO at hr; exact (of_decide_eq_true hr).2
    rw [putCF_ok hr]
    rw [hr] at CM
    have CP := Lib.hid fun w' => rputPoint_any m.c.p hm.c.p w'
    have CL := Lib.hid fun w' => rclow_is w' hv (putF_8 m.c.v)
    have RL := rowF_length m.c.l
    have H0 := Lib.hid hS0
    clear hS0 hr
    go_enter Try.func88, Try.ntmps88
    go_wp2_with (fail)
    refine CM.out.mono ?_
    rintro e w1 ⟨rfl, hb1⟩
    have hS := H0.out.below hm.c.p hb1
    have hS1 := hS.drew hm.c.p
    have h35 := hS.2.2.1
    have H1 := Lib.hid (And.intro hS hS1)
    clear hb1 hh1 hh2 H0 CM hS hS1
    cases hbb : m.c.base with
    | true =>
      rw [hbb] at h35
      have HB := Lib.hid hbb
      have hS1 := H1.out.2
      clear hbb H1
      go_wp2_with (fail)
      go_region_held3 (fun w' => StC w m w') (first | exact hS4 | exact hS3 | exact hS2 | exact hS1)
        (first
          | (go_at_call 89; (with_reducible refine (CP.out _).mono ?_); rintro e w2 ⟨A2, c2, rfl, ho2, hb2⟩; have hS2 := hS1.below hm.c.p hb2)
          | (go_at_call 115; (with_reducible refine (CL.out _).mono ?_); rintro e w3 ⟨A3, c3, rfl, ho3, hb3⟩; have hS3 := hS2.below hm.c.p hb3)
          | (refine step_appN _ rfl (.tmp 13) (.tmp 16) _ (by rfl) w.heap.size 5 .u8 1 Try.underlying40 inf_b A2 38 c2 _ (by rfl) ((OwnN.mono ho2 hS1.1.1.size).below hb3) A3 _ c3 _ (by rfl) ho3.rd (by simp only [lowF_length]; decide) (by simp only [lowF_length]; decide) (hS3.1.1.size) ?_; intro A4 c4 w4 ho4 hg4 _; have hS4 := hS3.app hm.c.p ((OwnN.mono ho2 hS1.1.1.size).below hb3) hg4))
      rename_i hHeldX
      clear hHeldX
      rw [show (lowF m.c.v 8).length = 8 from lowF_length 8 _]
      have hb46 : OwnB w4 w.heap.size A4 46 c4 (putPF m.c.p ++ lowF m.c.v 8) := ho4
      have hS5 := hS4.drew hm.c.p
      have hS6 := hS5.alloc hm.c.p (.cells (ns .u8 [1]).toArray 5)
      have hz := hS4.1.1.size
      have LH := Lib.hid (And.intro hb46 ho4)
      clear hS1 hS2 hS3 hS4 ho2 ho3 ho4 hb2 hb3 hg4 hb46 CP CL h35
      go_wp2_with (fail)
      go_region_held3 (fun w' => StC w m w') (first | exact hS9 | exact hS8 | exact hS7 | exact hS6 | exact hS5)
        (first
          | (refine step_appN _ rfl (.tmp 18) (.tmp 20) _ (by rfl) w.heap.size 5 .u8 1 Try.underlying40 inf_b A4 46 c4 _ (by rfl) (OwnN.alloc (OwnN.drew LH.out.1) _) (some ⟨w4.heap.size, 0, none⟩) 1 1 [1] (by rfl) (rd_lit w4.drew [1] 1 (by decide) rfl) (by decide) (by decide) (by simp; omega) ?_; intro A5 c5 w5 ho5 hg5 _; have hS7 := hS6.app hm.c.p (OwnN.alloc (OwnN.drew LH.out.1) _) hg5)
          | (go_at_call 116; (with_reducible refine (rrow_is (hm.arg.below hS7.1.1) (by omega) rfl).mono ?_); rintro e w6 ⟨A6, c6, rfl, ho6, hb6⟩; have hS8 := hS7.below hm.c.p hb6)
          | (refine step_appN _ rfl (.tmp 21) (.tmp 24) _ (by rfl) w.heap.size 5 .u8 1 Try.underlying40 inf_b A5 (46 + 1) c5 _ (by rfl) (OwnN.below ho5 hb6) A6 _ c6 _ (by rfl) ho6.rd (by unfold maxLen; omega) (by omega) (hS8.1.1.size) ?_; intro A7 c7 w7 ho7 hg7 _; have hS9 := hS8.app hm.c.p (OwnN.below ho5 hb6) hg7))
      have H7 := Lib.hid (And.intro hS9 ho7)
      clear hS5 hS6 hS7 hS8 hS9 ho5 ho6 ho7 hb6 hg5 hg7 LH
      go_wp2_with (fail)
      go_ret2
      have hlen : (putPF m.c.p ++ lowF m.c.v 8 ++ [1] ++ rowF m.c.l).length = 46 + 1 + (rowF m.c.l).length := by simp only [List.length_append, putPF_length hm.c.p, lowF_length]; rfl
      rw [show baseF m.c.base = 1 from by rw [HB.out]; rfl]
      exact ⟨A7, c7, by rw [hlen]; rfl, by rw [hlen]; exact H7.out.2, H7.out.1.1.1⟩
    | false =>
      rw [hbb] at h35
      have HB := Lib.hid hbb
      have hS1 := H1.out.2
      clear hbb H1
      go_wp2_with (fail)
      go_region_held3 (fun w' => StC w m w') (first | exact hS4 | exact hS3 | exact hS2 | exact hS1)
        (first
          | (go_at_call 89; (with_reducible refine (CP.out _).mono ?_); rintro e w2 ⟨A2, c2, rfl, ho2, hb2⟩; have hS2 := hS1.below hm.c.p hb2)
          | (go_at_call 115; (with_reducible refine (CL.out _).mono ?_); rintro e w3 ⟨A3, c3, rfl, ho3, hb3⟩; have hS3 := hS2.below hm.c.p hb3)
          | (refine step_appN _ rfl (.tmp 13) (.tmp 16) _ (by rfl) w.heap.size 5 .u8 1 Try.underlying40 inf_b A2 38 c2 _ (by rfl) ((OwnN.mono ho2 hS1.1.1.size).below hb3) A3 _ c3 _ (by rfl) ho3.rd (by simp only [lowF_length]; decide) (by simp only [lowF_length]; decide) (hS3.1.1.size) ?_; intro A4 c4 w4 ho4 hg4 _; have hS4 := hS3.app hm.c.p ((OwnN.mono ho2 hS1.1.1.size).below hb3) hg4))
      rename_i hHeldX
      clear hHeldX
      rw [show (lowF m.c.v 8).length = 8 from lowF_length 8 _]
      have hb46 : OwnB w4 w.heap.size A4 46 c4 (putPF m.c.p ++ lowF m.c.v 8) := ho4
      have hS5 := hS4.drew hm.c.p
      have hS6 := hS5.alloc hm.c.p (.cells (ns .u8 [0]).toArray 5)
      have hz := hS4.1.1.size
      have LH := Lib.hid (And.intro hb46 ho4)
      clear hS1 hS2 hS3 hS4 ho2 ho3 ho4 hb2 hb3 hg4 hb46 CP CL h35
      go_wp2_with (fail)
      go_region_held3 (fun w' => StC w m w') (first | exact hS9 | exact hS8 | exact hS7 | exact hS6 | exact hS5)
        (first
          | (refine step_appN _ rfl (.tmp 18) (.tmp 20) _ (by rfl) w.heap.size 5 .u8 1 Try.underlying40 inf_b A4 46 c4 _ (by rfl) (OwnN.alloc (OwnN.drew LH.out.1) _) (some ⟨w4.heap.size, 0, none⟩) 1 1 [0] (by rfl) (rd_lit w4.drew [0] 1 (by decide) rfl) (by decide) (by decide) (by simp; omega) ?_; intro A5 c5 w5 ho5 hg5 _; have hS7 := hS6.app hm.c.p (OwnN.alloc (OwnN.drew LH.out.1) _) hg5)
          | (go_at_call 116; (with_reducible refine (rrow_is (hm.arg.below hS7.1.1) (by omega) rfl).mono ?_); rintro e w6 ⟨A6, c6, rfl, ho6, hb6⟩; have hS8 := hS7.below hm.c.p hb6)
          | (refine step_appN _ rfl (.tmp 21) (.tmp 24) _ (by rfl) w.heap.size 5 .u8 1 Try.underlying40 inf_b A5 (46 + 1) c5 _ (by rfl) (OwnN.below ho5 hb6) A6 _ c6 _ (by rfl) ho6.rd (by unfold maxLen; omega) (by omega) (hS8.1.1.size) ?_; intro A7 c7 w7 ho7 hg7 _; have hS9 := hS8.app hm.c.p (OwnN.below ho5 hb6) hg7))
      have H7 := Lib.hid (And.intro hS9 ho7)
      clear hS5 hS6 hS7 hS8 hS9 ho5 ho6 ho7 hb6 hg5 hg7 LH
      go_wp2_with (fail)
      go_ret2
      have hlen : (putPF m.c.p ++ lowF m.c.v 8 ++ [0] ++ rowF m.c.l).length = 46 + 1 + (rowF m.c.l).length := by simp only [List.length_append, putPF_length hm.c.p, lowF_length]; rfl
      rw [show baseF m.c.base = 0 from by rw [HB.out]; rfl]
      exact ⟨A7, c7, by rw [hlen]; rfl, by rw [hlen]; exact H7.out.2, H7.out.1.1.1⟩

end Go.Proofs.Ytofclanljhfkiaa
/- Rules for the walk: a whole point or coin is stored, built. -/
namespace Go.Proofs.Ytofclanljhfkiaa
open Go.RowKit Go.Proofs En Co
set_option linter.unusedVariables false
set_option linter.unusedSimpArgs false
set_option maxRecDepth 20000

/-- block b is one row of n cells -/
def rowIs (w : World) (b n : Nat) : Prop := ∃ old t, w.heap[b]? = some (.cells old t (0, 0)) ∧ old.size = n
def okAgg (cs : Array Value) (n : Nat) : Prop := cs.size = n ∧ cs.all (·.oneCell') = true
theorem storeAt_rule {P : Program} (T : TypeId) (n : Nat) (hi : (P.info? T).map (·.size) = some n) (w : World) (b : Nat) (cs : Array Value) (hr : rowIs w b n) (hc : okAgg cs n) :
    (Instr.storeAt T (.pointer (some ⟨b, 0, none⟩)) (.agg cs)).run P w = .ok () (w.setRow b cs) := by
  obtain ⟨old, t, hg, hs⟩ := hr
  simp only [Instr.storeAt, Instr.sureAddr, Sem.run_bind, Sem.run_pure, Result.andThen_ok, run_storeVar_row (P := P) w b t T old cs hg (by rw [hc.1]; exact hi) (by rw [hs, hc.1]) hc.2]
theorem rowIs_setRow {w : World} {b n : Nat} {cs : Array Value} (h : rowIs w b n) (hc : cs.size = n) : rowIs (w.setRow b cs) b n := by
  obtain ⟨old, t, hg, hs⟩ := h
  exact ⟨cs, t, setRow_heap w b _ _ t _ hg, hc⟩
theorem pc_ok {p : Pt} (h : p.ok) : okAgg (pc p).toArray 34 := ⟨by simpa using pc_length h, all_oneCell_toArray (pc_one p)⟩
theorem cc_ok {m : Cm} (h : m.c.p.ok) : okAgg (cc m).toArray 37 := ⟨by simpa using cc_length h, all_oneCell_toArray (cc_one m)⟩
/-- a row that has been written, read whole -/
theorem row_set {w : World} {b n : Nat} (h : rowIs w b n) (cs : Array Value) : ∃ t, (w.setRow b cs).heap[b]? = some (.cells cs t (0, 0)) := by
  obtain ⟨old, t, hg, hs⟩ := h
  exact ⟨t, setRow_heap w b _ _ t _ hg⟩

def st_point (v u : Value) : Sem Unit := Instr.storeAt 54 v u
theorem st_point_eq (v u : Value) : Instr.storeAt 54 v u = st_point v u := rfl
theorem st_point_run (w : World) (b : Nat) (cs : Array Value) (hr : rowIs w b 34) (hc : okAgg cs 34) : (st_point (.pointer (some ⟨b, 0, none⟩)) (.agg cs)).run Try.prog w = .ok () (w.setRow b cs) := storeAt_rule _ _ size_pt w b cs hr hc
def bd_point (ps : Array (Nat × Value)) : Sem Value := Instr.build 54 ps
theorem bd_point_eq (ps : Array (Nat × Value)) : Instr.build 54 ps = bd_point ps := rfl
/-- the row that lies there, as a result -/
theorem rd_point (w : World) (b : Nat) (cs : Array Value) (t : TypeId) (hg : w.heap[b]? = some (.cells cs t (0, 0))) (hc : cs.size = 34) : (loadVar 54 ⟨b, 0, none⟩).run Try.prog w = .ok (.agg cs) w :=
  run_loadVar_row w b t 54 cs _ _ hg Try.underlying54 rfl (by rw [hc]; exact size_pt)
def st_coin (v u : Value) : Sem Unit := Instr.storeAt 57 v u
theorem st_coin_eq (v u : Value) : Instr.storeAt 57 v u = st_coin v u := rfl
theorem st_coin_run (w : World) (b : Nat) (cs : Array Value) (hr : rowIs w b 37) (hc : okAgg cs 37) : (st_coin (.pointer (some ⟨b, 0, none⟩)) (.agg cs)).run Try.prog w = .ok () (w.setRow b cs) := storeAt_rule _ _ size_coin w b cs hr hc
def bd_coin (ps : Array (Nat × Value)) : Sem Value := Instr.build 57 ps
theorem bd_coin_eq (ps : Array (Nat × Value)) : Instr.build 57 ps = bd_coin ps := rfl
/-- the row that lies there, as a result -/
theorem rd_coin (w : World) (b : Nat) (cs : Array Value) (t : TypeId) (hg : w.heap[b]? = some (.cells cs t (0, 0))) (hc : cs.size = 37) : (loadVar 57 ⟨b, 0, none⟩).run Try.prog w = .ok (.agg cs) w :=
  run_loadVar_row w b t 57 cs _ _ hg Try.underlying57 rfl (by rw [hc]; exact size_coin)
/-- a slice of 32 bytes as an array -/
theorem hash_at (w : World) (a : Addr) (c : Nat) : (Instr.arrayAt 50 (.slice (some a) 32 c)).run Try.prog w = .ok (.pointer (some a)) w := by
  kernel_rfl
/-- a point of a hash's cells; a coin of a point's -/
def mkPt (cs : Array Value) (n h : Int) : Array Value := cs ++ #[.int .u16 n, .int .u32 h]
def mkCn (cs : Array Value) (v : Int) (b : Bool) (l : Value) : Array Value := cs ++ #[.int .u64 v, .bool b, l]
theorem mkPt_pc (p : Pt) : mkPt (ns .u8 p.tx).toArray p.n p.h = (pc p).toArray := by unfold mkPt pc; simp
theorem mkCn_cc (m : Cm) : mkCn (pc m.c.p).toArray m.c.v m.c.base (.slice m.A m.c.l.length m.k) = (cc m).toArray := by unfold mkCn cc Cm.lk; simp
theorem bd_point_zero (w : World) : (bd_point #[]).run Try.prog w = .ok (.agg (pc zeroPt).toArray) w := by
  show (Instr.build 54 #[]).run Try.prog w = _
  kernel_rfl
theorem bd_coin_zero (w : World) : (bd_coin #[]).run Try.prog w = .ok (.agg (cc ⟨zeroCn, none, 0⟩).toArray) w := by
  show (Instr.build 57 #[]).run Try.prog w = _
  kernel_rfl
theorem arr32 {cs : Array Value} (h : cs.size = 32) : ∃ x0 x1 x2 x3 x4 x5 x6 x7 x8 x9 x10 x11 x12 x13 x14 x15 x16 x17 x18 x19 x20 x21 x22 x23 x24 x25 x26 x27 x28 x29 x30 x31 : Value, cs = #[x0, x1, x2, x3, x4, x5, x6, x7, x8, x9, x10, x11, x12, x13, x14, x15, x16, x17, x18, x19, x20, x21, x22, x23, x24, x25, x26, x27, x28, x29, x30, x31] := by
  obtain ⟨l⟩ := cs
  replace h : l.length = 32 := h
  rcases l with _ | ⟨x0, l⟩
  · simp at h
  replace h : l.length = 31 := by simpa using h
  rcases l with _ | ⟨x1, l⟩
  · simp at h
  replace h : l.length = 30 := by simpa using h
  rcases l with _ | ⟨x2, l⟩
  · simp at h
  replace h : l.length = 29 := by simpa using h
  rcases l with _ | ⟨x3, l⟩
  · simp at h
  replace h : l.length = 28 := by simpa using h
  rcases l with _ | ⟨x4, l⟩
  · simp at h
  replace h : l.length = 27 := by simpa using h
  rcases l with _ | ⟨x5, l⟩
  · simp at h
  replace h : l.length = 26 := by simpa using h
  rcases l with _ | ⟨x6, l⟩
  · simp at h
  replace h : l.length = 25 := by simpa using h
  rcases l with _ | ⟨x7, l⟩
  · simp at h
  replace h : l.length = 24 := by simpa using h
  rcases l with _ | ⟨x8, l⟩
  · simp at h
  replace h : l.length = 23 := by simpa using h
  rcases l with _ | ⟨x9, l⟩
  · simp at h
  replace h : l.length = 22 := by simpa using h
  rcases l with _ | ⟨x10, l⟩
  · simp at h
  replace h : l.length = 21 := by simpa using h
  rcases l with _ | ⟨x11, l⟩
  · simp at h
  replace h : l.length = 20 := by simpa using h
  rcases l with _ | ⟨x12, l⟩
  · simp at h
  replace h : l.length = 19 := by simpa using h
  rcases l with _ | ⟨x13, l⟩
  · simp at h
  replace h : l.length = 18 := by simpa using h
  rcases l with _ | ⟨x14, l⟩
  · simp at h
  replace h : l.length = 17 := by simpa using h
  rcases l with _ | ⟨x15, l⟩
  · simp at h
  replace h : l.length = 16 := by simpa using h
  rcases l with _ | ⟨x16, l⟩
  · simp at h
  replace h : l.length = 15 := by simpa using h
  rcases l with _ | ⟨x17, l⟩
  · simp at h
  replace h : l.length = 14 := by simpa using h
  rcases l with _ | ⟨x18, l⟩
  · simp at h
  replace h : l.length = 13 := by simpa using h
  rcases l with _ | ⟨x19, l⟩
  · simp at h
  replace h : l.length = 12 := by simpa using h
  rcases l with _ | ⟨x20, l⟩
  · simp at h
  replace h : l.length = 11 := by simpa using h
  rcases l with _ | ⟨x21, l⟩
  · simp at h
  replace h : l.length = 10 := by simpa using h
  rcases l with _ | ⟨x22, l⟩
  · simp at h
  replace h : l.length = 9 := by simpa using h
  rcases l with _ | ⟨x23, l⟩
  · simp at h
  replace h : l.length = 8 := by simpa using h
  rcases l with _ | ⟨x24, l⟩
  · simp at h
  replace h : l.length = 7 := by simpa using h
  rcases l with _ | ⟨x25, l⟩
  · simp at h
  replace h : l.length = 6 := by simpa using h
  rcases l with _ | ⟨x26, l⟩
  · simp at h
  replace h : l.length = 5 := by simpa using h
  rcases l with _ | ⟨x27, l⟩
  · simp at h
  replace h : l.length = 4 := by simpa using h
  rcases l with _ | ⟨x28, l⟩
  · simp at h
  replace h : l.length = 3 := by simpa using h
  rcases l with _ | ⟨x29, l⟩
  · simp at h
  replace h : l.length = 2 := by simpa using h
  rcases l with _ | ⟨x30, l⟩
  · simp at h
  replace h : l.length = 1 := by simpa using h
  rcases l with _ | ⟨x31, l⟩
  · simp at h
  replace h : l.length = 0 := by simpa using h
  have hl : l = [] := List.eq_nil_of_length_eq_zero h
  subst hl
  exact ⟨x0, x1, x2, x3, x4, x5, x6, x7, x8, x9, x10, x11, x12, x13, x14, x15, x16, x17, x18, x19, x20, x21, x22, x23, x24, x25, x26, x27, x28, x29, x30, x31, rfl⟩
theorem arr34 {cs : Array Value} (h : cs.size = 34) : ∃ x0 x1 x2 x3 x4 x5 x6 x7 x8 x9 x10 x11 x12 x13 x14 x15 x16 x17 x18 x19 x20 x21 x22 x23 x24 x25 x26 x27 x28 x29 x30 x31 x32 x33 : Value, cs = #[x0, x1, x2, x3, x4, x5, x6, x7, x8, x9, x10, x11, x12, x13, x14, x15, x16, x17, x18, x19, x20, x21, x22, x23, x24, x25, x26, x27, x28, x29, x30, x31, x32, x33] := by
  obtain ⟨l⟩ := cs
  replace h : l.length = 34 := h
  rcases l with _ | ⟨x0, l⟩
  · simp at h
  replace h : l.length = 33 := by simpa using h
  rcases l with _ | ⟨x1, l⟩
  · simp at h
  replace h : l.length = 32 := by simpa using h
  rcases l with _ | ⟨x2, l⟩
  · simp at h
  replace h : l.length = 31 := by simpa using h
  rcases l with _ | ⟨x3, l⟩
  · simp at h
  replace h : l.length = 30 := by simpa using h
  rcases l with _ | ⟨x4, l⟩
  · simp at h
  replace h : l.length = 29 := by simpa using h
  rcases l with _ | ⟨x5, l⟩
  · simp at h
  replace h : l.length = 28 := by simpa using h
  rcases l with _ | ⟨x6, l⟩
  · simp at h
  replace h : l.length = 27 := by simpa using h
  rcases l with _ | ⟨x7, l⟩
  · simp at h
  replace h : l.length = 26 := by simpa using h
  rcases l with _ | ⟨x8, l⟩
  · simp at h
  replace h : l.length = 25 := by simpa using h
  rcases l with _ | ⟨x9, l⟩
  · simp at h
  replace h : l.length = 24 := by simpa using h
  rcases l with _ | ⟨x10, l⟩
  · simp at h
  replace h : l.length = 23 := by simpa using h
  rcases l with _ | ⟨x11, l⟩
  · simp at h
  replace h : l.length = 22 := by simpa using h
  rcases l with _ | ⟨x12, l⟩
  · simp at h
  replace h : l.length = 21 := by simpa using h
  rcases l with _ | ⟨x13, l⟩
  · simp at h
  replace h : l.length = 20 := by simpa using h
  rcases l with _ | ⟨x14, l⟩
  · simp at h
  replace h : l.length = 19 := by simpa using h
  rcases l with _ | ⟨x15, l⟩
  · simp at h
  replace h : l.length = 18 := by simpa using h
  rcases l with _ | ⟨x16, l⟩
  · simp at h
  replace h : l.length = 17 := by simpa using h
  rcases l with _ | ⟨x17, l⟩
  · simp at h
  replace h : l.length = 16 := by simpa using h
  rcases l with _ | ⟨x18, l⟩
  · simp at h
  replace h : l.length = 15 := by simpa using h
  rcases l with _ | ⟨x19, l⟩
  · simp at h
  replace h : l.length = 14 := by simpa using h
  rcases l with _ | ⟨x20, l⟩
  · simp at h
  replace h : l.length = 13 := by simpa using h
  rcases l with _ | ⟨x21, l⟩
  · simp at h
  replace h : l.length = 12 := by simpa using h
  rcases l with _ | ⟨x22, l⟩
  · simp at h
  replace h : l.length = 11 := by simpa using h
  rcases l with _ | ⟨x23, l⟩
  · simp at h
  replace h : l.length = 10 := by simpa using h
  rcases l with _ | ⟨x24, l⟩
  · simp at h
  replace h : l.length = 9 := by simpa using h
  rcases l with _ | ⟨x25, l⟩
  · simp at h
  replace h : l.length = 8 := by simpa using h
  rcases l with _ | ⟨x26, l⟩
  · simp at h
  replace h : l.length = 7 := by simpa using h
  rcases l with _ | ⟨x27, l⟩
  · simp at h
  replace h : l.length = 6 := by simpa using h
  rcases l with _ | ⟨x28, l⟩
  · simp at h
  replace h : l.length = 5 := by simpa using h
  rcases l with _ | ⟨x29, l⟩
  · simp at h
  replace h : l.length = 4 := by simpa using h
  rcases l with _ | ⟨x30, l⟩
  · simp at h
  replace h : l.length = 3 := by simpa using h
  rcases l with _ | ⟨x31, l⟩
  · simp at h
  replace h : l.length = 2 := by simpa using h
  rcases l with _ | ⟨x32, l⟩
  · simp at h
  replace h : l.length = 1 := by simpa using h
  rcases l with _ | ⟨x33, l⟩
  · simp at h
  replace h : l.length = 0 := by simpa using h
  have hl : l = [] := List.eq_nil_of_length_eq_zero h
  subst hl
  exact ⟨x0, x1, x2, x3, x4, x5, x6, x7, x8, x9, x10, x11, x12, x13, x14, x15, x16, x17, x18, x19, x20, x21, x22, x23, x24, x25, x26, x27, x28, x29, x30, x31, x32, x33, rfl⟩
theorem bd_point_of (w : World) (cs : Array Value) (n h : Int) (hs : cs.size = 32) : (bd_point #[(0, .agg cs), (1, .int .u16 n), (2, .int .u32 h)]).run Try.prog w = .ok (.agg (mkPt cs n h)) w := by
  obtain ⟨x0, x1, x2, x3, x4, x5, x6, x7, x8, x9, x10, x11, x12, x13, x14, x15, x16, x17, x18, x19, x20, x21, x22, x23, x24, x25, x26, x27, x28, x29, x30, x31, rfl⟩ := arr32 hs
  show (Instr.build 54 _).run Try.prog w = _
  kernel_rfl
theorem bd_coin_of (w : World) (cs : Array Value) (v : Int) (b : Bool) (A : Option Addr) (n k : Nat) (hs : cs.size = 34) : (bd_coin #[(0, .agg cs), (1, .int .u64 v), (2, .bool b), (3, .slice A n k)]).run Try.prog w = .ok (.agg (mkCn cs v b (.slice A n k))) w := by
  obtain ⟨x0, x1, x2, x3, x4, x5, x6, x7, x8, x9, x10, x11, x12, x13, x14, x15, x16, x17, x18, x19, x20, x21, x22, x23, x24, x25, x26, x27, x28, x29, x30, x31, x32, x33, rfl⟩ := arr34 hs
  show (Instr.build 57 _).run Try.prog w = _
  kernel_rfl
end Go.Proofs.Ytofclanljhfkiaa
/- What GetPoint answers, in the program and in the reference. -/
namespace Go.Proofs.Ytofclanljhfkiaa
open Go.RowKit Go.Proofs En Co
set_option linter.unusedVariables false
set_option linter.unusedSimpArgs false
set_option maxRecDepth 20000
attribute [local go_sem ↓] ld_point_eq ld_coin_eq ld_hash_eq st_point_eq st_coin_eq bd_point_eq bd_coin_eq
attribute [local go_sem] ld_point_run ld_coin_run ld_hash_run st_point_run st_coin_run bd_point_zero bd_coin_zero bd_point_of bd_coin_of hash_at

theorem ptF_ok {l : List Int} (hB : IsB l) (hl : l.length = 38) : (ptF l).ok := by
  have h2 := getF_bound hB 32 2
  have h4 := getF_bound hB 34 4
  refine ⟨?_, hB.take _, ⟨h2.1, ?_⟩, ⟨h4.1, ?_⟩⟩
  · show (l.take 32).length = 32; rw [List.length_take]; omega
  · show (getF l 32 2).1 ≤ 65535; have : (getF l 32 2).1 < 256 ^ 2 := h2.2.1; omega
  · show (getF l 34 4).1 ≤ 4294967295; have : (getF l 34 4).1 < 256 ^ 4 := h4.2.1; omega
theorem getPF_err {b : List Int} {at_ q : Int} {p : List Int} (h : partF b at_ 38 = (p, q)) (hq : q ≠ 0) : getPF b at_ = (zeroPt, 0, q) := by unfold getPF; rw [h, if_neg hq]
theorem getPF_ok {b : List Int} {at_ : Int} {p : List Int} (h : partF b at_ 38 = (p, 0)) : getPF b at_ = (ptF p, at_ + 38, 0) := by unfold getPF; rw [h, if_pos rfl]
theorem own_at {w : World} {base : Nat} {A : Option Addr} {n c : Nat} {p : List Int} (h : OwnB w base A n c p) (hn : 0 < n) : ∃ g, A = some ⟨g, 0, none⟩ := by
  rcases h.2 with ⟨_, h0, _⟩ | ⟨g, _, h, _⟩
  · omega
  · exact ⟨g, h⟩
theorem rd_has {w : World} {g n : Nat} {p : List Int} (h : RdN w .u8 (some ⟨g, 0, none⟩) n p) {k : Nat} (hk : k ≤ n) : hasAt w g 0 k ∧ cellsAt w g 0 k = (ns .u8 (p.take k)).toArray := by
  have hl := h.len
  have hr : w.rangeAt g 0 (ns .u8 (p.take k)) := by
    intro j v hv
    have hj : j < k := by have := (List.getElem?_eq_some_iff.1 hv).1; rw [ns_length, List.length_take] at this; omega
    obtain ⟨ad, e, _, hc⟩ := h.at_ (i := j) (by omega)
    injection e with e
    subst e
    rw [add_new] at hc
    rw [Nat.zero_add, hc, ← hv, ns_get _ _ _ (by rw [List.length_take]; omega)]
    congr 2
    rw [List.getD_eq_getElem?_getD, List.getD_eq_getElem?_getD, List.getElem?_take_of_lt hj]
  have hlen : (ns .u8 (p.take k)).length = k := by rw [ns_length, List.length_take]; omega
  exact ⟨hasAt_of hr hlen, cellsAt_of hr hlen⟩
theorem rowIs_of {w : World} {b n : Nat} {cs : Array Value} {t : TypeId} (h : w.heap[b]? = some (.cells cs t (0, 0))) (hn : cs.size = n) : rowIs w b n := ⟨cs, t, h, hn⟩
theorem rowIs.below {w w' : World} {b n : Nat} (h : rowIs w b n) (hb : Below w.heap.size w w') : rowIs w' b n := by
  obtain ⟨old, t, hg, hs⟩ := h
  exact ⟨old, t, (hb.block b (Array.getElem?_eq_some_iff.1 hg).1).trans hg, hs⟩
theorem rowIs.lt {w : World} {b n : Nat} (h : rowIs w b n) : b < w.heap.size := by
  obtain ⟨old, t, hg, hs⟩ := h
  exact (Array.getElem?_eq_some_iff.1 hg).1

set_option maxRecDepth 10000 in
set_option maxHeartbeats 1000000 in
theorem getPoint_any (A : Option Addr) (n c : Nat) (b : List Int) (at_ : Int) (w : World) (hb : Arg w A n c b) (ha : -9223372036854775808 ≤ at_ ∧ at_ ≤ 9223372036854775807) :
    Calls Try.prog 65 #[.slice A n c, .int .i64 at_] w fun e w' => e = .returned (.tuple #[.agg (pc (getPF b at_).1).toArray, .int .i64 (getPF b at_).2.1, .int .i64 (getPF b at_).2.2]) ∧ Below w.heap.size w w' := by
  obtain ⟨p, q, hpq⟩ : ∃ p q, partF b at_ 38 = (p, q) := ⟨_, _, rfl⟩
  have hlen := hb.rd.len
  have hn := hb.len
  by_cases hq : q = 0
  · subst hq
    rw [getPF_ok hpq]
    obtain ⟨h1, h2, h3, h4⟩ := partF_ok (b := b) (at_ := at_) (n := 38) (by rw [hpq])
    have hpl : p.length = 38 := by have := partF_length (b := b) (at_ := at_) (n := 38) (by rw [hpq]); rw [hpq] at this; simp only at this; omega
    have hpB : IsB p := by have := partF_isB hb.isB at_ 38; rw [hpq] at this; exact this
    have hok := ptF_ok hpB hpl
    obtain ⟨x, ex, hx⟩ : ∃ x e, getF p 32 2 = (x, e) := ⟨_, _, rfl⟩
    obtain ⟨y, ey, hy⟩ : ∃ x e, getF p 34 4 = (x, e) := ⟨_, _, rfl⟩
    have hpt : ptF p = ⟨p.take 32, x, y⟩ := by unfold ptF; rw [hx, hy]
    rw [hpt] at hok ⊢
    have hxb := hok.n
    have hyb := hok.h
    have hmk : mkPt (ns .u8 (p.take 32)).toArray x y = (pc ⟨p.take 32, x, y⟩).toArray := mkPt_pc ⟨p.take 32, x, y⟩
    have hokA := pc_ok hok
    have hsz : (ns .u8 (p.take 32)).toArray.size = 32 := by simp [ns_length, hpl]
    have i1 : at_ + 38 ≤ 9223372036854775807 := by omega
    have PP := Lib.hid (And.intro hpq (And.intro hpl (And.intro hpB (And.intro hx hy))))
    clear hpq h4 hx hy hpt hok hpB hpl hlen
    simp only at hxb hyb
    go_enter Try.func65, Try.ntmps65
    go_wp2_with (fail)
    refine (part_is (hb.below ((Below.refl w.heap.size w).alloc (Nat.le_refl _) _)) ha (by omega) PP.out.1).mono ?_
    rintro e w1 ⟨A1, c1, rfl, ho1, hb1⟩
    have hri : rowIs w1 w.heap.size 34 := (rowIs_of (heap_alloc_new w _) rfl).below hb1
    have hbl : Below w.heap.size w w1 := ((Below.refl w.heap.size w).alloc (Nat.le_refl _) _).trans (hb1.mono (by simp))
    rw [PP.out.2.1] at ho1 ⊢
    obtain ⟨g, rfl⟩ := own_at ho1 (by omega)
    have ha1 : Arg w1 (some ⟨g, 0, none⟩) 38 c1 p := ⟨ho1.rd, PP.out.2.2.1, (Own.len_cap ho1).1, (Own.len_cap ho1).2, by omega⟩
    have hc1 := (Own.len_cap ho1).1
    clear ho1 hb1
    go_wp2_with (fail)
    refine (get_is ha1 (by omega) (by omega) PP.out.2.2.2.1).mono ?_
    rintro e w2 ⟨rfl, hb2⟩
    have hri := hri.below hb2
    have ha2 := ha1.below hb2
    have hbl := bThen hbl hb2
    clear hb2 ha1
    go_wp2_with (fail)
    refine (get_is ha2 (by omega) (by omega) PP.out.2.2.2.2).mono ?_
    rintro e w3 ⟨rfl, hb3⟩
    have hri := hri.below hb3
    obtain ⟨hh, hc⟩ := rd_has (ha2.below hb3).rd (k := 32) (by omega)
    have hbl := bThen hbl hb3
    have hz := hbl.size
    obtain ⟨t, hrow⟩ := row_set hri (pc ⟨p.take 32, x, y⟩).toArray
    have RW := Lib.hid hrow
    have BL := Lib.hid hbl
    clear hb3 ha2 hrow hbl
    go_wp2_with (fail)
    refine bodyPost_ret (res_cell3 Try.results65 rfl (rd_point _ _ _ _ RW.out hokA.1)) rfl ?_
    exact ⟨rfl, below_setRow BL.out (Nat.le_refl _) hz _⟩
  · rw [getPF_err hpq hq]
    have hp0 : p = [] := by have := partF_err (b := b) (at_ := at_) (n := 38) (by rw [hpq]; exact hq); rw [hpq] at this; exact this
    subst hp0
    have hokA := pc_ok zeroPt_ok
    have PP := Lib.hid hpq
    have d1 : (q != 0) = true := by rw [bne_iff_ne]; exact hq
    clear hpq hq hlen
    go_enter Try.func65, Try.ntmps65
    go_wp2_with (fail)
    refine (part_is (hb.below ((Below.refl w.heap.size w).alloc (Nat.le_refl _) _)) ha (by omega) PP.out).mono ?_
    rintro e w1 ⟨A1, c1, rfl, ho1, hb1⟩
    have hri : rowIs w1 w.heap.size 34 := (rowIs_of (heap_alloc_new w _) rfl).below hb1
    have hbl : Below w.heap.size w w1 := ((Below.refl w.heap.size w).alloc (Nat.le_refl _) _).trans (hb1.mono (by simp))
    have hz := hbl.size
    obtain ⟨t, hrow⟩ := row_set hri (pc zeroPt).toArray
    have RW := Lib.hid hrow
    have BL := Lib.hid hbl
    clear ho1 hb1 hrow hbl
    go_wp2_with (fail)
    refine bodyPost_ret (res_cell3 Try.results65 rfl (rd_point _ _ _ _ RW.out hokA.1)) rfl ?_
    exact ⟨rfl, below_setRow BL.out (Nat.le_refl _) hz _⟩
end Go.Proofs.Ytofclanljhfkiaa
/- What the reference's GetPoint answers. -/
namespace Go.Proofs.Ytofclanljhfkiaa
open Go.RowKit Go.Proofs En Co
set_option linter.unusedVariables false
set_option linter.unusedSimpArgs false
set_option maxRecDepth 20000
attribute [local go_sem ↓] ld_point_eq ld_coin_eq ld_hash_eq st_point_eq st_coin_eq bd_point_eq bd_coin_eq
attribute [local go_sem] ld_point_run ld_coin_run ld_hash_run st_point_run st_coin_run bd_point_zero bd_coin_zero bd_point_of bd_coin_of hash_at

/-- a point's box while its hash is filled -/
def filling (p : List Int) (k : Nat) : Pt := ⟨p.take k ++ List.replicate (32 - k) 0, 0, 0⟩
theorem filling_len (p : List Int) (k : Nat) (hp : p.length = 38) (hk : k ≤ 32) : (filling p k).tx.length = 32 := by
  unfold filling
  simp only [List.length_append, List.length_take, List.length_replicate]
  omega
theorem filling_set (p : List Int) (k : Nat) (hp : p.length = 38) (hk : k < 32) : (pc (filling p k)).toArray.setIfInBounds k (.int .u8 (p.getD k 0)) = (pc (filling p (k + 1))).toArray := by
  have hf := filling_len p k hp (by omega)
  have hs : (p.take k ++ List.replicate (32 - k) 0).set k (p.getD k 0) = p.take (k + 1) ++ List.replicate (32 - (k + 1)) 0 := by
    rw [set_fill _ _ _ _ k (by rw [List.length_take]; omega) (by omega), ← take_snoc0 p k (by omega), Nat.sub_sub]
  apply Array.ext'
  unfold pc
  rw [Array.toList_setIfInBounds]
  show (ns .u8 (filling p k).tx ++ [Value.int .u16 0, Value.int .u32 0]).set k _ = ns .u8 (filling p (k + 1)).tx ++ [Value.int .u16 0, Value.int .u32 0]
  rw [List.set_append_left _ _ (by rw [ns_length, hf]; exact hk)]
  congr 1
  unfold filling
  rw [← hs]
  unfold ns
  rw [List.map_set]
theorem pc_set2 (tx : List Int) (hl : tx.length = 32) (x y : Int) : ((pc ⟨tx, 0, 0⟩).toArray.setIfInBounds 32 (.int .u16 x)).setIfInBounds 33 (.int .u32 y) = (pc ⟨tx, x, y⟩).toArray := by
  apply Array.ext'
  unfold pc
  rw [Array.toList_setIfInBounds, Array.toList_setIfInBounds]
  show ((ns .u8 tx ++ [Value.int .u16 0, Value.int .u32 0]).set 32 (.int .u16 x)).set 33 (.int .u32 y) = ns .u8 tx ++ [Value.int .u16 x, Value.int .u32 y]
  rw [List.set_append_right _ _ (by rw [ns_length, hl]; exact Nat.le_refl _), List.set_append_right _ _ (by rw [ns_length, hl]; decide), ns_length, hl]
  rfl
theorem rowIs.set {w : World} {b n : Nat} (h : rowIs w b n) (p : Addr) (v : Value) (hne : b ≠ p.block) : rowIs (w.setCell p v) b n := by
  obtain ⟨old, t, hg, hs⟩ := h
  exact ⟨old, t, (Below.heap_setCell _ _ _ _ hne).trans hg, hs⟩
theorem rd_set {w : World} {n : Nat} {xs : List Int} {g : Nat} (h : RdN w .u8 (some ⟨g, 0, none⟩) n xs) (p : Addr) (v : Value) (hne : g ≠ p.block) : RdN (w.setCell p v) .u8 (some ⟨g, 0, none⟩) n xs := by
  refine Rd.keep h (by simp) fun k hk ad he hb => Below.heap_setCell _ _ _ _ ?_
  injection he with he
  subst he
  rw [hb]
  exact hne
theorem row_cells {w : World} {g : Nat} {cs : Array Value} {t : TypeId} (h : w.heap[g]? = some (.cells cs t (0, 0))) (i : Nat) : w.cell? ⟨g, i, none⟩ = cs[i]? ∧ w.frozen? ⟨g, i, none⟩ = false :=
  ⟨cell_of_row w g i cs t (0, 0) h, frozen_of_row w g i _ t h⟩

set_option maxRecDepth 10000 in
set_option maxHeartbeats 1000000 in
theorem rgetPoint_any (A : Option Addr) (n c : Nat) (b : List Int) (at_ : Int) (w : World) (hb : Arg w A n c b) (ha : -9223372036854775808 ≤ at_ ∧ at_ ≤ 9223372036854775807) :
    Calls Try.prog 90 #[.slice A n c, .int .i64 at_] w fun e w' => e = .returned (.tuple #[.agg (pc (getPF b at_).1).toArray, .int .i64 (getPF b at_).2.1, .int .i64 (getPF b at_).2.2]) ∧ Below w.heap.size w w' := by
  obtain ⟨p, q, hpq⟩ : ∃ p q, partF b at_ 38 = (p, q) := ⟨_, _, rfl⟩
  have hlen := hb.rd.len
  have hn := hb.len
  by_cases hq : q = 0
  · subst hq
    rw [getPF_ok hpq]
    obtain ⟨h1, h2, h3, h4⟩ := partF_ok (b := b) (at_ := at_) (n := 38) (by rw [hpq])
    have hpl : p.length = 38 := by have := partF_length (b := b) (at_ := at_) (n := 38) (by rw [hpq]); rw [hpq] at this; simp only at this; omega
    have hpB : IsB p := by have := partF_isB hb.isB at_ 38; rw [hpq] at this; exact this
    have hok := ptF_ok hpB hpl
    obtain ⟨x, ex, hx⟩ : ∃ x e, getF p 32 2 = (x, e) := ⟨_, _, rfl⟩
    obtain ⟨y, ey, hy⟩ : ∃ x e, getF p 34 4 = (x, e) := ⟨_, _, rfl⟩
    have hpt : ptF p = ⟨p.take 32, x, y⟩ := by unfold ptF; rw [hx, hy]
    rw [hpt] at hok ⊢
    have hxb := hok.n
    have hyb := hok.h
    have hokA := pc_ok hok
    have i1 : at_ + 38 ≤ 9223372036854775807 := by omega
    have PP := Lib.hid (And.intro hpq (And.intro hpl (And.intro hpB (And.intro hx hy))))
    have htl : (p.take 32).length = 32 := by rw [List.length_take]; omega
    have TL := Lib.hid (And.intro htl hok)
    clear hpq h4 hx hy hpt hok hpB hpl hlen htl
    simp only at hxb hyb
    go_enter Try.func90, Try.ntmps90
    go_wp2_with (fail)
    refine (rpart_is (hb.below ((Below.refl w.heap.size w).alloc (Nat.le_refl _) _)) ha (by omega) PP.out.1).mono ?_
    rintro e w1 ⟨A1, c1, rfl, ho1, hb1⟩
    have hri : rowIs w1 w.heap.size 34 := (rowIs_of (heap_alloc_new w _) rfl).below hb1
    have hbl : Below w.heap.size w w1 := ((Below.refl w.heap.size w).alloc (Nat.le_refl _) _).trans (hb1.mono (by simp))
    rw [PP.out.2.1] at ho1 ⊢
    obtain ⟨g, rfl⟩ := own_at ho1 (by omega)
    have hgl := (OwnN.lt ho1 g (by simp [blk])).2
    have hc1 := (Own.len_cap ho1).1
    have hct := (Own.len_cap ho1).2
    have hz := hbl.size
    have hrl := hri.lt
    have hnew : (w1.alloc (.cells (pc (filling p 0)).toArray 54)).heap[w1.heap.size]? = some (.cells (pc (filling p 0)).toArray 54 (0, 0)) := heap_alloc_new w1 _
    have hri1 := hri.below ((Below.refl w1.heap.size w1).alloc (Nat.le_refl _) (.cells (pc (filling p 0)).toArray 54))
    have hrd1 := (OwnN.alloc ho1 (.cells (pc (filling p 0)).toArray 54)).rd
    have hbl1 := belA hbl (.cells (pc (filling p 0)).toArray 54) (Nat.le_refl _)
    have H1 := Lib.hid (And.intro hnew (And.intro hri1 (And.intro hrd1 hbl1)))
    clear ho1 hb1 hri hbl hnew hri1 hrd1 hbl1
    go_wp2_with (fail)
    go_loopw [10] (fun i wr => ∃ k : Nat, k ≤ 32 ∧ i = .int .i64 k ∧ wr.heap[w1.heap.size]? = some (.cells (pc (filling p k)).toArray 54 (0, 0)) ∧ rowIs wr w.heap.size 34 ∧ RdN wr .u8 (some ⟨g, 0, none⟩) 38 p ∧ Below w.heap.size w wr) (fun i _ => 32 - (intOf i).toNat)
    case atStart => exact ⟨0, by omega, rfl, H1.out⟩
    case round =>
      clear H1
      obtain ⟨k, hk, rfl, hrow, hri, hrd, hbl⟩ := hrel
      by_cases hlt : k < 32
      · obtain ⟨ad, had, _, hca⟩ := hrd.at_ (show k < 38 by omega)
        injection had with had
        subst had
        rw [add_new] at hca
        have hfl := filling_len p k PP.out.2.1 hk
        have hc9 : wr.cell? ⟨w1.heap.size, k, none⟩ = some (.int .u8 ((filling p k).tx.getD k 0)) := by
          rw [(row_cells hrow k).1]
          have : (pc (filling p k))[k]? = some (.int .u8 ((filling p k).tx.getD k 0)) := by
            unfold pc
            rw [List.getElem?_append_left (by rw [ns_length, hfl]; exact hlt)]
            exact ns_get _ _ _ (by rw [hfl]; exact hlt)
          simpa using this
        have hf9 := (row_cells hrow k).2
        have hrow2 := heap_setCell_same _ _ k _ _ (.int .u8 (p.getD k 0)) hrow
        rw [filling_set p k PP.out.2.1 hlt] at hrow2
        have HH := Lib.hid (And.intro hrow2 (And.intro (hri.set ⟨w1.heap.size, k, none⟩ (.int .u8 (p.getD k 0)) (by show w.heap.size ≠ w1.heap.size; omega)) (And.intro (rd_set hrd ⟨w1.heap.size, k, none⟩ (.int .u8 (p.getD k 0)) (by show g ≠ w1.heap.size; omega)) (hbl.setCell (p := ⟨w1.heap.size, k, none⟩) (by show w.heap.size ≤ w1.heap.size; exact hz) (.int .u8 (p.getD k 0))))))
        have d0 : decide ((k : Int) < 32) = true := decide_eq_true (by omega)
        clear hfl hrow hri hrd hbl hrow2
        generalize p.getD k 0 = z at *
        generalize (filling p k).tx.getD k 0 = z0 at *
        go_wp2_with (fail)
        go_roundw
        case rel => exact ⟨k + 1, by omega, by go_num, HH.out⟩
        case measure => simp [intOf]; omega
      · obtain rfl : k = 32 := by omega
        have hf : filling p 32 = ⟨p.take 32, 0, 0⟩ := by unfold filling; simp
        rw [hf] at hrow
        have ha1 : Arg wr (some ⟨g, 0, none⟩) 38 c1 p := ⟨hrd, PP.out.2.2.1, hc1, hct, by omega⟩
        have d0 : decide (((32 : Nat) : Int) < 32) = false := by decide
        have hlt1 := (Array.getElem?_eq_some_iff.1 hrow).1
        have HR := Lib.hid hrow
        clear hrow hf hrd
        go_wp2_with (fail)
        refine (rget_is ha1 (by omega) (by omega) PP.out.2.2.2.1).mono ?_
        rintro e w2 ⟨rfl, hb2⟩
        have hri := hri.below hb2
        have ha2 := ha1.below hb2
        have hbl := bThen hbl hb2
        have HR2 := Lib.hid ((hb2.block w1.heap.size hlt1).trans HR.out)
        have hlt2 := (Array.getElem?_eq_some_iff.1 HR2.out).1
        clear hb2 ha1 HR
        go_wp2_with (fail)
        refine (rget_is ha2 (by omega) (by omega) PP.out.2.2.2.2).mono ?_
        rintro e w3 ⟨rfl, hb3⟩
        have hri := hri.below hb3
        have hbl := bThen hbl hb3
        have hrow3 := (hb3.block w1.heap.size hlt2).trans HR2.out
        have hz3 := hbl.size
        obtain ⟨kn, fn⟩ := row_cells hrow3 32
        obtain ⟨kh, fh⟩ := row_cells hrow3 33
        have z0 : Pt.ok ⟨p.take 32, 0, 0⟩ := ⟨TL.out.1, TL.out.2.isB, ⟨Int.le_refl 0, (by decide : (0 : Int) ≤ 65535)⟩, ⟨Int.le_refl 0, (by decide : (0 : Int) ≤ 4294967295)⟩⟩
        rw [show (pc ⟨p.take 32, 0, 0⟩).toArray[32]? = some (.int .u16 0) from by simpa using pc_n z0] at kn
        rw [show (pc ⟨p.take 32, 0, 0⟩).toArray[33]? = some (.int .u32 0) from by simpa using pc_h z0] at kh
        have hrow4 := heap_setCell_same _ _ 33 _ _ (.int .u32 y) (heap_setCell_same _ _ 32 _ _ (.int .u16 x) hrow3)
        rw [pc_set2 _ TL.out.1] at hrow4
        have hrng : ((w3.setCell ⟨w1.heap.size, 32, none⟩ (.int .u16 x)).setCell ⟨w1.heap.size, 33, none⟩ (.int .u32 y)).rangeAt w1.heap.size 0 (pc ⟨p.take 32, x, y⟩) := by
          intro j v hv
          rw [Nat.zero_add, (row_cells hrow4 j).1]
          simpa using hv
        have hh := hasAt_of hrng (pc_length TL.out.2)
        have hc := cellsAt_of hrng (pc_length TL.out.2)
        have hri4 := (hri.set ⟨w1.heap.size, 32, none⟩ (.int .u16 x) (by show w.heap.size ≠ w1.heap.size; omega)).set ⟨w1.heap.size, 33, none⟩ (.int .u32 y) (by show w.heap.size ≠ w1.heap.size; omega)
        obtain ⟨t, hrow5⟩ := row_set hri4 (pc ⟨p.take 32, x, y⟩).toArray
        have RW := Lib.hid hrow5
        have BL := Lib.hid ((hbl.setCell (p := ⟨w1.heap.size, 32, none⟩) (by show w.heap.size ≤ w1.heap.size; exact hz) (.int .u16 x)).setCell (p := ⟨w1.heap.size, 33, none⟩) (by show w.heap.size ≤ w1.heap.size; exact hz) (.int .u32 y))
        clear hb3 ha2 hrow3 hrow4 hrow5 hbl hrng hri z0 HR2
        go_wp2_with (fail)
        refine bodyPost_ret (res_cell3 Try.results90 rfl (rd_point _ _ _ _ RW.out hokA.1)) rfl ?_
        exact ⟨rfl, below_setRow BL.out (Nat.le_refl _) (by simp; exact hz3) _⟩
  · rw [getPF_err hpq hq]
    have hp0 : p = [] := by have := partF_err (b := b) (at_ := at_) (n := 38) (by rw [hpq]; exact hq); rw [hpq] at this; exact this
    subst hp0
    have hokA := pc_ok zeroPt_ok
    have PP := Lib.hid hpq
    have d1 : (q != 0) = true := by rw [bne_iff_ne]; exact hq
    clear hpq hq hlen
    go_enter Try.func90, Try.ntmps90
    go_wp2_with (fail)
    refine (rpart_is (hb.below ((Below.refl w.heap.size w).alloc (Nat.le_refl _) _)) ha (by omega) PP.out).mono ?_
    rintro e w1 ⟨A1, c1, rfl, ho1, hb1⟩
    have hri : rowIs w1 w.heap.size 34 := (rowIs_of (heap_alloc_new w _) rfl).below hb1
    have hbl : Below w.heap.size w w1 := ((Below.refl w.heap.size w).alloc (Nat.le_refl _) _).trans (hb1.mono (by simp))
    have hz := hbl.size
    obtain ⟨t, hrow⟩ := row_set hri (pc zeroPt).toArray
    have RW := Lib.hid hrow
    have BL := Lib.hid hbl
    clear ho1 hb1 hrow hbl
    go_wp2_with (fail)
    refine bodyPost_ret (res_cell3 Try.results90 rfl (rd_point _ _ _ _ RW.out hokA.1)) rfl ?_
    exact ⟨rfl, below_setRow BL.out (Nat.le_refl _) hz _⟩
end Go.Proofs.Ytofclanljhfkiaa
