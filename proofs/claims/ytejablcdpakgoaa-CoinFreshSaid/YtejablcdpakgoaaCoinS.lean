/- Rules for the walk: a whole point or coin is stored, built. -/
import Derived.Test.YtejablcdpakgoaaCoinR
namespace Go.Proofs.Ytejablcdpakgoaa
open Go.RowKit Go.Proofs En Co
set_option linter.unusedVariables false
set_option linter.unusedSimpArgs false

/-- block b is one row of n cells -/
def rowIs (w : World) (b n : Nat) : Prop := ∃ old t, w.heap[b]? = some (.cells old t (0, 0)) ∧ old.size = n
def okAgg (cs : Array Value) (n : Nat) : Prop := cs.size = n ∧ cs.all (·.oneCell') = true
theorem storeAt_rule {P : Program} (T : TypeId) (n : Nat) (hi : (P.info? T).map (·.size) = some n) (w : World) (b : Nat) (cs : Array Value) (hr : rowIs w b n) (hc : okAgg cs n) :
    (Instr.storeAt T (.pointer (some ⟨b, 0, none⟩)) (.agg cs)).run P w = .ok () (w.setRow b cs) := by
  obtain ⟨old, t, hg, hs⟩ := hr
  simp only [Instr.storeAt, Instr.sureAddr, Sem.run_bind, Sem.run_pure, Result.andThen_ok, run_storeVar_row (P := P) w b t T old cs hg (by rw [hc.1]; exact hi) (by rw [hs, hc.1]) hc.2]
theorem rowIs_setRow {w : World} {b n : Nat} {cs : Array Value} (h : rowIs w b n) (hc : cs.size = n) : rowIs (w.setRow b cs) b n := by
  obtain ⟨old, t, hg, hs⟩ := h
  exact ⟨cs, t, setRow_heap w b _ _ t _ hg, hc⟩
theorem pc_ok {p : Pt} (h : p.ok) : okAgg (pc p).toArray 34 := ⟨by simpa using pc_length h, all_oneCell_toArray (pc_one p)⟩
theorem cc_ok {m : Cm} (h : m.c.p.ok) : okAgg (cc m).toArray 37 := ⟨by simpa using cc_length h, all_oneCell_toArray (cc_one m)⟩
/-- a row that has been written, read whole -/
theorem row_set {w : World} {b n : Nat} (h : rowIs w b n) (cs : Array Value) : ∃ t, (w.setRow b cs).heap[b]? = some (.cells cs t (0, 0)) := by
  obtain ⟨old, t, hg, hs⟩ := h
  exact ⟨t, setRow_heap w b _ _ t _ hg⟩

def st_point (v u : Value) : Sem Unit := Instr.storeAt 27 v u
theorem st_point_eq (v u : Value) : Instr.storeAt 27 v u = st_point v u := rfl
theorem st_point_run (w : World) (b : Nat) (cs : Array Value) (hr : rowIs w b 34) (hc : okAgg cs 34) : (st_point (.pointer (some ⟨b, 0, none⟩)) (.agg cs)).run Try.prog w = .ok () (w.setRow b cs) := storeAt_rule _ _ size_pt w b cs hr hc
def bd_point (ps : Array (Nat × Value)) : Sem Value := Instr.build 27 ps
theorem bd_point_eq (ps : Array (Nat × Value)) : Instr.build 27 ps = bd_point ps := rfl
/-- the row that lies there, as a result -/
theorem rd_point (w : World) (b : Nat) (cs : Array Value) (t : TypeId) (hg : w.heap[b]? = some (.cells cs t (0, 0))) (hc : cs.size = 34) : (loadVar 27 ⟨b, 0, none⟩).run Try.prog w = .ok (.agg cs) w :=
  run_loadVar_row w b t 27 cs _ _ hg Try.underlying27 rfl (by rw [hc]; exact size_pt)
def st_coin (v u : Value) : Sem Unit := Instr.storeAt 31 v u
theorem st_coin_eq (v u : Value) : Instr.storeAt 31 v u = st_coin v u := rfl
theorem st_coin_run (w : World) (b : Nat) (cs : Array Value) (hr : rowIs w b 37) (hc : okAgg cs 37) : (st_coin (.pointer (some ⟨b, 0, none⟩)) (.agg cs)).run Try.prog w = .ok () (w.setRow b cs) := storeAt_rule _ _ size_coin w b cs hr hc
def bd_coin (ps : Array (Nat × Value)) : Sem Value := Instr.build 31 ps
theorem bd_coin_eq (ps : Array (Nat × Value)) : Instr.build 31 ps = bd_coin ps := rfl
/-- the row that lies there, as a result -/
theorem rd_coin (w : World) (b : Nat) (cs : Array Value) (t : TypeId) (hg : w.heap[b]? = some (.cells cs t (0, 0))) (hc : cs.size = 37) : (loadVar 31 ⟨b, 0, none⟩).run Try.prog w = .ok (.agg cs) w :=
  run_loadVar_row w b t 31 cs _ _ hg Try.underlying31 rfl (by rw [hc]; exact size_coin)
/-- a slice of 32 bytes as an array -/
theorem hash_at (w : World) (a : Addr) (c : Nat) : (Instr.arrayAt 23 (.slice (some a) 32 c)).run Try.prog w = .ok (.pointer (some a)) w := by
  kernel_rfl
/-- a point of a hash's cells; a coin of a point's -/
def mkPt (cs : Array Value) (n h : Int) : Array Value := cs ++ #[.int .u16 n, .int .u32 h]
def mkCn (cs : Array Value) (v : Int) (b : Bool) (l : Value) : Array Value := cs ++ #[.int .u64 v, .bool b, l]
theorem mkPt_pc (p : Pt) : mkPt (ns .u8 p.tx).toArray p.n p.h = (pc p).toArray := by unfold mkPt pc; simp
theorem mkCn_cc (m : Cm) : mkCn (pc m.c.p).toArray m.c.v m.c.base (.slice m.A m.c.l.length m.k) = (cc m).toArray := by unfold mkCn cc Cm.lk; simp
theorem bd_point_zero (w : World) : (bd_point #[]).run Try.prog w = .ok (.agg (pc zeroPt).toArray) w := by
  show (Instr.build 27 #[]).run Try.prog w = _
  kernel_rfl
theorem bd_coin_zero (w : World) : (bd_coin #[]).run Try.prog w = .ok (.agg (cc ⟨zeroCn, none, 0⟩).toArray) w := by
  show (Instr.build 31 #[]).run Try.prog w = _
  kernel_rfl
theorem arr32 {cs : Array Value} (h : cs.size = 32) : ∃ x0 x1 x2 x3 x4 x5 x6 x7 x8 x9 x10 x11 x12 x13 x14 x15 x16 x17 x18 x19 x20 x21 x22 x23 x24 x25 x26 x27 x28 x29 x30 x31 : Value, cs = #[x0, x1, x2, x3, x4, x5, x6, x7, x8, x9, x10, x11, x12, x13, x14, x15, x16, x17, x18, x19, x20, x21, x22, x23, x24, x25, x26, x27, x28, x29, x30, x31] := by
  obtain ⟨l⟩ := cs
  replace h : l.length = 32 := h
  rcases l with _ | ⟨x0, l⟩
  · simp at h
  replace h : l.length = 31 := by simpa using h
  rcases l with _ | ⟨x1, l⟩
  · simp at h
  replace h : l.length = 30 := by simpa using h
  rcases l with _ | ⟨x2, l⟩
  · simp at h
  replace h : l.length = 29 := by simpa using h
  rcases l with _ | ⟨x3, l⟩
  · simp at h
  replace h : l.length = 28 := by simpa using h
  rcases l with _ | ⟨x4, l⟩
  · simp at h
  replace h : l.length = 27 := by simpa using h
  rcases l with _ | ⟨x5, l⟩
  · simp at h
  replace h : l.length = 26 := by simpa using h
  rcases l with _ | ⟨x6, l⟩
  · simp at h
  replace h : l.length = 25 := by simpa using h
  rcases l with _ | ⟨x7, l⟩
  · simp at h
  replace h : l.length = 24 := by simpa using h
  rcases l with _ | ⟨x8, l⟩
  · simp at h
  replace h : l.length = 23 := by simpa using h
  rcases l with _ | ⟨x9, l⟩
  · simp at h
  replace h : l.length = 22 := by simpa using h
  rcases l with _ | ⟨x10, l⟩
  · simp at h
  replace h : l.length = 21 := by simpa using h
  rcases l with _ | ⟨x11, l⟩
  · simp at h
  replace h : l.length = 20 := by simpa using h
  rcases l with _ | ⟨x12, l⟩
  · simp at h
  replace h : l.length = 19 := by simpa using h
  rcases l with _ | ⟨x13, l⟩
  · simp at h
  replace h : l.length = 18 := by simpa using h
  rcases l with _ | ⟨x14, l⟩
  · simp at h
  replace h : l.length = 17 := by simpa using h
  rcases l with _ | ⟨x15, l⟩
  · simp at h
  replace h : l.length = 16 := by simpa using h
  rcases l with _ | ⟨x16, l⟩
  · simp at h
  replace h : l.length = 15 := by simpa using h
  rcases l with _ | ⟨x17, l⟩
  · simp at h
  replace h : l.length = 14 := by simpa using h
  rcases l with _ | ⟨x18, l⟩
  · simp at h
  replace h : l.length = 13 := by simpa using h
  rcases l with _ | ⟨x19, l⟩
  · simp at h
  replace h : l.length = 12 := by simpa using h
  rcases l with _ | ⟨x20, l⟩
  · simp at h
  replace h : l.length = 11 := by simpa using h
  rcases l with _ | ⟨x21, l⟩
  · simp at h
  replace h : l.length = 10 := by simpa using h
  rcases l with _ | ⟨x22, l⟩
  · simp at h
  replace h : l.length = 9 := by simpa using h
  rcases l with _ | ⟨x23, l⟩
  · simp at h
  replace h : l.length = 8 := by simpa using h
  rcases l with _ | ⟨x24, l⟩
  · simp at h
  replace h : l.length = 7 := by simpa using h
  rcases l with _ | ⟨x25, l⟩
  · simp at h
  replace h : l.length = 6 := by simpa using h
  rcases l with _ | ⟨x26, l⟩
  · simp at h
  replace h : l.length = 5 := by simpa using h
  rcases l with _ | ⟨x27, l⟩
  · simp at h
  replace h : l.length = 4 := by simpa using h
  rcases l with _ | ⟨x28, l⟩
  · simp at h
  replace h : l.length = 3 := by simpa using h
  rcases l with _ | ⟨x29, l⟩
  · simp at h
  replace h : l.length = 2 := by simpa using h
  rcases l with _ | ⟨x30, l⟩
  · simp at h
  replace h : l.length = 1 := by simpa using h
  rcases l with _ | ⟨x31, l⟩
  · simp at h
  replace h : l.length = 0 := by simpa using h
  have hl : l = [] := List.eq_nil_of_length_eq_zero h
  subst hl
  exact ⟨x0, x1, x2, x3, x4, x5, x6, x7, x8, x9, x10, x11, x12, x13, x14, x15, x16, x17, x18, x19, x20, x21, x22, x23, x24, x25, x26, x27, x28, x29, x30, x31, rfl⟩
theorem arr34 {cs : Array Value} (h : cs.size = 34) : ∃ x0 x1 x2 x3 x4 x5 x6 x7 x8 x9 x10 x11 x12 x13 x14 x15 x16 x17 x18 x19 x20 x21 x22 x23 x24 x25 x26 x27 x28 x29 x30 x31 x32 x33 : Value, cs = #[x0, x1, x2, x3, x4, x5, x6, x7, x8, x9, x10, x11, x12, x13, x14, x15, x16, x17, x18, x19, x20, x21, x22, x23, x24, x25, x26, x27, x28, x29, x30, x31, x32, x33] := by
  obtain ⟨l⟩ := cs
  replace h : l.length = 34 := h
  rcases l with _ | ⟨x0, l⟩
  · simp at h
  replace h : l.length = 33 := by simpa using h
  rcases l with _ | ⟨x1, l⟩
  · simp at h
  replace h : l.length = 32 := by simpa using h
  rcases l with _ | ⟨x2, l⟩
  · simp at h
  replace h : l.length = 31 := by simpa using h
  rcases l with _ | ⟨x3, l⟩
  · simp at h
  replace h : l.length = 30 := by simpa using h
  rcases l with _ | ⟨x4, l⟩
  · simp at h
  replace h : l.length = 29 := by simpa using h
  rcases l with _ | ⟨x5, l⟩
  · simp at h
  replace h : l.length = 28 := by simpa using h
  rcases l with _ | ⟨x6, l⟩
  · simp at h
  replace h : l.length = 27 := by simpa using h
  rcases l with _ | ⟨x7, l⟩
  · simp at h
  replace h : l.length = 26 := by simpa using h
  rcases l with _ | ⟨x8, l⟩
  · simp at h
  replace h : l.length = 25 := by simpa using h
  rcases l with _ | ⟨x9, l⟩
  · simp at h
  replace h : l.length = 24 := by simpa using h
  rcases l with _ | ⟨x10, l⟩
  · simp at h
  replace h : l.length = 23 := by simpa using h
  rcases l with _ | ⟨x11, l⟩
  · simp at h
  replace h : l.length = 22 := by simpa using h
  rcases l with _ | ⟨x12, l⟩
  · simp at h
  replace h : l.length = 21 := by simpa using h
  rcases l with _ | ⟨x13, l⟩
  · simp at h
  replace h : l.length = 20 := by simpa using h
  rcases l with _ | ⟨x14, l⟩
  · simp at h
  replace h : l.length = 19 := by simpa using h
  rcases l with _ | ⟨x15, l⟩
  · simp at h
  replace h : l.length = 18 := by simpa using h
  rcases l with _ | ⟨x16, l⟩
  · simp at h
  replace h : l.length = 17 := by simpa using h
  rcases l with _ | ⟨x17, l⟩
  · simp at h
  replace h : l.length = 16 := by simpa using h
  rcases l with _ | ⟨x18, l⟩
  · simp at h
  replace h : l.length = 15 := by simpa using h
  rcases l with _ | ⟨x19, l⟩
  · simp at h
  replace h : l.length = 14 := by simpa using h
  rcases l with _ | ⟨x20, l⟩
  · simp at h
  replace h : l.length = 13 := by simpa using h
  rcases l with _ | ⟨x21, l⟩
  · simp at h
  replace h : l.length = 12 := by simpa using h
  rcases l with _ | ⟨x22, l⟩
  · simp at h
  replace h : l.length = 11 := by simpa using h
  rcases l with _ | ⟨x23, l⟩
  · simp at h
  replace h : l.length = 10 := by simpa using h
  rcases l with _ | ⟨x24, l⟩
  · simp at h
  replace h : l.length = 9 := by simpa using h
  rcases l with _ | ⟨x25, l⟩
  · simp at h
  replace h : l.length = 8 := by simpa using h
  rcases l with _ | ⟨x26, l⟩
  · simp at h
  replace h : l.length = 7 := by simpa using h
  rcases l with _ | ⟨x27, l⟩
  · simp at h
  replace h : l.length = 6 := by simpa using h
  rcases l with _ | ⟨x28, l⟩
  · simp at h
  replace h : l.length = 5 := by simpa using h
  rcases l with _ | ⟨x29, l⟩
  · simp at h
  replace h : l.length = 4 := by simpa using h
  rcases l with _ | ⟨x30, l⟩
  · simp at h
  replace h : l.length = 3 := by simpa using h
  rcases l with _ | ⟨x31, l⟩
  · simp at h
  replace h : l.length = 2 := by simpa using h
  rcases l with _ | ⟨x32, l⟩
  · simp at h
  replace h : l.length = 1 := by simpa using h
  rcases l with _ | ⟨x33, l⟩
  · simp at h
  replace h : l.length = 0 := by simpa using h
  have hl : l = [] := List.eq_nil_of_length_eq_zero h
  subst hl
  exact ⟨x0, x1, x2, x3, x4, x5, x6, x7, x8, x9, x10, x11, x12, x13, x14, x15, x16, x17, x18, x19, x20, x21, x22, x23, x24, x25, x26, x27, x28, x29, x30, x31, x32, x33, rfl⟩
theorem bd_point_of (w : World) (cs : Array Value) (n h : Int) (hs : cs.size = 32) : (bd_point #[(0, .agg cs), (1, .int .u16 n), (2, .int .u32 h)]).run Try.prog w = .ok (.agg (mkPt cs n h)) w := by
  obtain ⟨x0, x1, x2, x3, x4, x5, x6, x7, x8, x9, x10, x11, x12, x13, x14, x15, x16, x17, x18, x19, x20, x21, x22, x23, x24, x25, x26, x27, x28, x29, x30, x31, rfl⟩ := arr32 hs
  show (Instr.build 27 _).run Try.prog w = _
  kernel_rfl
theorem bd_coin_of (w : World) (cs : Array Value) (v : Int) (b : Bool) (A : Option Addr) (n k : Nat) (hs : cs.size = 34) : (bd_coin #[(0, .agg cs), (1, .int .u64 v), (2, .bool b), (3, .slice A n k)]).run Try.prog w = .ok (.agg (mkCn cs v b (.slice A n k))) w := by
  obtain ⟨x0, x1, x2, x3, x4, x5, x6, x7, x8, x9, x10, x11, x12, x13, x14, x15, x16, x17, x18, x19, x20, x21, x22, x23, x24, x25, x26, x27, x28, x29, x30, x31, x32, x33, rfl⟩ := arr34 hs
  show (Instr.build 31 _).run Try.prog w = _
  kernel_rfl
end Go.Proofs.Ytejablcdpakgoaa
