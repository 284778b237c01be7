/- Joined texts: CoinM, CoinA, CoinB, CoinC, CoinD. -/
import Derived.Test.YtofclanljhfkiaaM1
import Derived.Test.YtofclanljhfkiaaM3
import Derived.Deep.MidRow
import Derived.Deep.RegionLaw
import Derived.Deep.RegionWith
/- Coins as bytes, in plain Lean: what layer 6 computes. A point: 32 bytes, a number, a height. -/
namespace Go.Proofs.Ytofclanljhfkiaa.Co
open En
set_option linter.unusedVariables false
set_option linter.unusedSimpArgs false
set_option maxRecDepth 20000

@[ext] structure Pt where
  tx : List Int
  n : Int
  h : Int
deriving DecidableEq
@[ext] structure Cn where
  p : Pt
  v : Int
  base : Bool
  l : List Int
deriving DecidableEq
structure Pt.ok (p : Pt) : Prop where
  len : p.tx.length = 32
  isB : IsB p.tx
  n : 0 ≤ p.n ∧ p.n ≤ 65535
  h : 0 ≤ p.h ∧ p.h ≤ 4294967295
structure Cn.ok (c : Cn) : Prop where
  p : c.p.ok
  v : 0 ≤ c.v ∧ c.v < 18446744073709551616
  l : IsB c.l
def zeroPt : Pt := ⟨List.replicate 32 0, 0, 0⟩
def zeroCn : Cn := ⟨zeroPt, 0, false, []⟩
theorem zeroPt_ok : zeroPt.ok := ⟨by decide, by unfold IsB zeroPt; decide, ⟨by decide, by decide⟩, ⟨by decide, by decide⟩⟩
theorem zeroCn_ok : zeroCn.ok := ⟨zeroPt_ok, ⟨by decide, by decide⟩, IsB.nil⟩

def maxM : Int := 1125899906842624
def putPF (p : Pt) : List Int := p.tx ++ lowF p.n 2 ++ lowF p.h 4
def mayO (v : Int) (l : List Int) : Bool := decide (v ≤ maxM ∧ l.length ≤ 100)
def putOF (v : Int) (l : List Int) : List Int × Int := if mayO v l = true then (lowF v 8 ++ rowF l, 0) else ([], 2)
def baseF (b : Bool) : Int := if b then 1 else 0
def putCF (c : Cn) : List Int × Int := if mayO c.v c.l = true then (putPF c.p ++ lowF c.v 8 ++ [baseF c.base] ++ rowF c.l, 0) else ([], 2)
/-- a point of 38 bytes -/
def ptF (l : List Int) : Pt := ⟨l.take 32, (getF l 32 2).1, (getF l 34 4).1⟩
def getPF (b : List Int) (at_ : Int) : Pt × Int × Int :=
  if (partF b at_ 38).2 = 0 then (ptF (partF b at_ 38).1, at_ + 38, 0) else (zeroPt, 0, (partF b at_ 38).2)
def valueF (b : List Int) (at_ : Int) : Int × Int := if (getF b at_ 8).2 = 0 ∧ maxM < (getF b at_ 8).1 then ((getF b at_ 8).1, 5) else getF b at_ 8
def getOF (b : List Int) (at_ : Int) : Int × List Int × Int × Int :=
  if (valueF b at_).2 = 0 then
    (if (getRowF b (at_ + 8) 100).2.2 = 0 then ((valueF b at_).1, (getRowF b (at_ + 8) 100).1, (getRowF b (at_ + 8) 100).2.1, 0) else (0, [], 0, (getRowF b (at_ + 8) 100).2.2))
  else (0, [], 0, (valueF b at_).2)
def getCF (b : List Int) (at_ : Int) : Cn × Int × Int :=
  if (getPF b at_).2.2 = 0 then
    (if (valueF b (at_ + 38)).2 = 0 then
      (if (getF b (at_ + 46) 1).2 = 0 then
        (if 1 < (getF b (at_ + 46) 1).1 then (zeroCn, 0, 5)
         else if (getRowF b (at_ + 47) 100).2.2 = 0 then
          (⟨(getPF b at_).1, (valueF b (at_ + 38)).1, decide ((getF b (at_ + 46) 1).1 = 1), (getRowF b (at_ + 47) 100).1⟩, (getRowF b (at_ + 47) 100).2.1, 0)
         else (zeroCn, 0, (getRowF b (at_ + 47) 100).2.2))
       else (zeroCn, 0, (getF b (at_ + 46) 1).2))
     else (zeroCn, 0, (valueF b (at_ + 38)).2))
  else (zeroCn, 0, (getPF b at_).2.2)
def readCF (b : List Int) : Cn × Int :=
  if (getCF b 0).2.2 = 0 then (if (getCF b 0).2.1 < b.length then (zeroCn, 5) else ((getCF b 0).1, 0)) else (zeroCn, (getCF b 0).2.2)
/-- the order of points: that of their lists of numbers -/
def Pt.key (p : Pt) : List Int := p.tx ++ [p.n, p.h]
def lexB : List Int → List Int → Bool
  | [], [] => false
  | [], _ :: _ => true
  | _ :: _, [] => false
  | x :: xs, y :: ys => if x = y then lexB xs ys else decide (x < y)
def lessF (a b : Pt) : Bool := lexB a.key b.key
end Go.Proofs.Ytofclanljhfkiaa.Co
/- Points in memory; what PutPoint answers. -/
namespace Go.Proofs.Ytofclanljhfkiaa
open Go.RowKit Go.Proofs En Co
set_option linter.unusedVariables false
set_option linter.unusedSimpArgs false
set_option maxRecDepth 20000

/-- a point's cells -/
def pc (p : Pt) : List Value := ns .u8 p.tx ++ [.int .u16 p.n, .int .u32 p.h]
theorem pc_length {p : Pt} (h : p.ok) : (pc p).length = 34 := by unfold pc; rw [List.length_append, ns_length, h.len]; rfl
theorem pc_tx {p : Pt} (h : p.ok) (i : Nat) (hi : i < 32) : (pc p)[i]? = some (.int .u8 (p.tx.getD i 0)) := by
  unfold pc
  rw [List.getElem?_append_left (by rw [ns_length, h.len]; exact hi)]
  exact ns_get _ _ _ (by rw [h.len]; exact hi)
theorem pc_n {p : Pt} (h : p.ok) : (pc p)[32]? = some (.int .u16 p.n) := by
  unfold pc
  rw [List.getElem?_append_right (by rw [ns_length, h.len]; exact Nat.le_refl _), ns_length, h.len]
  rfl
theorem pc_h {p : Pt} (h : p.ok) : (pc p)[33]? = some (.int .u32 p.h) := by
  unfold pc
  rw [List.getElem?_append_right (by rw [ns_length, h.len]; decide), ns_length, h.len]
  rfl

/-- what stays while a function makes memory: nothing old has turned, and block g is as it was laid -/
abbrev St (B : Nat) (w : World) (g : Nat) (r : Obj) (w' : World) : Prop := Below B w w' ∧ w'.heap[g]? = some r
theorem St.alloc {B : Nat} {w w' : World} {g : Nat} {r : Obj} (h : St B w g r w') (hB : B ≤ w.heap.size) (o : Obj) : St B w g r (w'.alloc o) :=
  ⟨belA h.1 o hB, by rw [Below.heap_alloc _ _ _ (Array.getElem?_eq_some_iff.1 h.2).1]; exact h.2⟩
theorem St.below {B : Nat} {w w' w2 : World} {g : Nat} {r : Obj} (h : St B w g r w') (hB : B ≤ w.heap.size) (hb : Below w'.heap.size w' w2) : St B w g r w2 :=
  ⟨h.1.trans (hb.mono (Nat.le_trans hB h.1.size)), (hb.block g (Array.getElem?_eq_some_iff.1 h.2).1).trans h.2⟩
theorem St.grown {B : Nat} {w w' w2 : World} {g : Nat} {r : Obj} {A : Option Addr} (h : St B w g r w') (hB : B ≤ w.heap.size) (hg : w'.grownBy w2 (blk A)) (hA : ∀ k, blk A = some k → B ≤ k ∧ k ≠ g) : St B w g r w2 :=
  ⟨h.1.grown hg (Nat.le_trans hB h.1.size) (fun k hk => (hA k hk).1), (hg.block g (Array.getElem?_eq_some_iff.1 h.2).1 (fun e => (hA g e.symm).2 rfl)).trans h.2⟩

theorem St.app {B base : Nat} {w w' w2 : World} {g : Nat} {xs : Array Value} {t : TypeId} {fr : Nat × Nat} {A : Option Addr} {n c : Nat} {p : List Int} (h : St B w g (.cells xs t fr) w') (hB : B ≤ w.heap.size) (ho : OwnB w' base A n c p) (hb : B ≤ base) (ht : 5 ≠ t) (hg : w'.grownBy w2 (blk A)) : St B w g (.cells xs t fr) w2 :=
  h.grown hB hg fun k hk => ⟨Nat.le_trans hb (OwnN.lt ho k hk).1, fun e => Own.ne_block ho h.2 ht (by rw [hk, e])⟩

theorem inf_b3 : ∃ i, Try.prog.info? 5 = some i ∧ i.zero = some (.int .u8 0) ∧ i.size = 1 ∧ i.bytes = 1 := info_of inf_b
/-- an empty row with room -/
theorem make_room (n : Nat) (hn : n ≤ 140737488355328) (w : World) : (Instr.makeSlice 40 (.int .i64 0) (.int .i64 (n : Int))).run Try.prog w = .ok (.slice (some ⟨w.heap.size, 0, none⟩) 0 n) (w.alloc (.cells (ns .u8 (List.replicate n 0)).toArray 5)) := by
  obtain ⟨i, hi, hz, hsz, hby⟩ := inf_b3
  have hr := run_make (P := Try.prog) w 40 5 i (.int .u8 0) Try.underlying40 hi hz .i64 .i64 0 n (Int.le_refl _) (by omega) (by rw [hby]; omega) (by omega)
  simp only [Int.toNat_natCast, hsz, Nat.mul_one] at hr
  rw [hr]
  have hl : (madeCells (Value.int .u8 0).cells n) = (ns .u8 (List.replicate n 0)).toArray := by
    apply Array.ext'
    have := toList_madeCells_one (.int .u8 0) n
    unfold ns
    rw [List.map_replicate]
    exact this
  rw [hl]
  rfl
theorem room_own (w : World) (base n g : Nat) (hg : g = w.heap.size) (hb : base ≤ w.heap.size) (hn : n ≤ maxLen) : OwnB (w.alloc (.cells (ns .u8 (List.replicate n 0)).toArray 5)) base (some ⟨g, 0, none⟩) 0 n [] := by
  subst hg
  have h := OwnN.laid (e := 5) (k := .u8) (w := w) (List.replicate n 0) n 0 hb (Nat.zero_le _) hn (by simp)
  simpa using h
theorem pt_rd (w : World) (p : Pt) (hp : p.ok) (g : Nat) (hg : w.heap[g]? = some (.cells (pc p).toArray 54 (0, 0))) : RdN w .u8 (some ⟨g, 0, none⟩) 32 p.tx := by
  refine ⟨by rw [ns_length, hp.len], fun _ => ⟨_, rfl, (Array.getElem?_eq_some_iff.1 hg).1, fun j u hu => ?_⟩⟩
  rw [add_new, cell_of_row w g j _ _ _ hg]
  have hj : j < p.tx.length := by have := (List.getElem?_eq_some_iff.1 hu).1; rwa [ns_length] at this
  have : (pc p)[j]? = some u := by unfold pc; rw [List.getElem?_append_left (by rw [ns_length]; exact hj)]; exact hu
  simpa using this

set_option maxHeartbeats 400000 in
theorem clow_is {n m : Int} {p : List Int} {q : Int} (w : World) (hn : 0 ≤ n ∧ n < 18446744073709551616) (h : putF n m = (p, q)) :
    Calls Try.prog 96 #[.int .u64 n, .int .i64 m] w fun e w' => ∃ A c, e = .returned (.slice A p.length c) ∧ OwnB w' w.heap.size A p.length c p ∧ Below w.heap.size w w' := by
  have C := Lib.hid (put_is w hn h)
  clear h
  go_enter Try.func96, Try.ntmps96
  go_wp2_with (fail)
  refine C.out.mono ?_
  rintro e w1 ⟨A, c, rfl, ho, hb⟩
  have H := Lib.hid (And.intro ho hb)
  clear ho hb C
  go_wp2_with (fail)
  go_ret
  exact ⟨A, c, rfl, H.out.1, H.out.2⟩

set_option maxHeartbeats 400000 in
theorem rclow_is {n m : Int} {p : List Int} {q : Int} (w : World) (hn : 0 ≤ n ∧ n < 18446744073709551616) (h : putF n m = (p, q)) :
    Calls Try.prog 115 #[.int .u64 n, .int .i64 m] w fun e w' => ∃ A c, e = .returned (.slice A p.length c) ∧ OwnB w' w.heap.size A p.length c p ∧ Below w.heap.size w w' := by
  have C := Lib.hid (rput_is w hn h)
  clear h
  go_enter Try.func115, Try.ntmps115
  go_wp2_with (fail)
  refine C.out.mono ?_
  rintro e w1 ⟨A, c, rfl, ho, hb⟩
  have H := Lib.hid (And.intro ho hb)
  clear ho hb C
  go_wp2_with (fail)
  go_ret
  exact ⟨A, c, rfl, H.out.1, H.out.2⟩
theorem putF_2 {n : Int} (h : 0 ≤ n ∧ n ≤ 65535) : putF n 2 = (lowF n 2, 0) := by
  unfold putF; rw [if_pos ⟨by decide, .inr (by show n < 256 ^ 2; omega)⟩]; rfl
theorem putF_4 {n : Int} (h : 0 ≤ n ∧ n ≤ 4294967295) : putF n 4 = (lowF n 4, 0) := by
  unfold putF; rw [if_pos ⟨by decide, .inr (by show n < 256 ^ 4; omega)⟩]; rfl
theorem putF_8 (n : Int) : putF n 8 = (lowF n 8, 0) := by
  unfold putF; rw [if_pos ⟨by decide, .inl (by decide)⟩]; rfl
theorem pt_cells {w : World} {p : Pt} (hp : p.ok) {g : Nat} {more : List Value} {t : TypeId} (hg : w.heap[g]? = some (.cells (pc p ++ more).toArray t (0, 0))) :
    w.cell? ⟨g, 32, none⟩ = some (.int .u16 p.n) ∧ w.cell? ⟨g, 33, none⟩ = some (.int .u32 p.h) := by
  have hl := pc_length hp
  constructor
  · rw [cell_of_row w g 32 _ _ _ hg]
    have : (pc p ++ more)[32]? = some (.int .u16 p.n) := by rw [List.getElem?_append_left (by omega)]; exact pc_n hp
    simpa using this
  · rw [cell_of_row w g 33 _ _ _ hg]
    have : (pc p ++ more)[33]? = some (.int .u32 p.h) := by rw [List.getElem?_append_left (by omega)]; exact pc_h hp
    simpa using this

set_option maxHeartbeats 400000 in
theorem putPoint_any (p : Pt) (hp : p.ok) (w : World) :
    Calls Try.prog 61 #[.agg (pc p).toArray] w fun e w' => ∃ A c, e = .returned (.slice A 38 c) ∧ OwnB w' w.heap.size A 38 c (putPF p) ∧ Below w.heap.size w w' := by
  have hn := hp.n
  have hh := hp.h
  have hmk : ∀ w : World, (Instr.makeSlice 40 (.int .i64 0) (.int .i64 38)).run Try.prog w = .ok (.slice (some ⟨w.heap.size, 0, none⟩) 0 38) (w.alloc (.cells (ns .u8 (List.replicate 38 0)).toArray 5)) := make_room 38 (by omega)
  have hS : St w.heap.size w w.heap.size (.cells (pc p).toArray 54 (0, 0)) ((w.alloc (.cells (pc p).toArray 54)).drew) := ⟨((Below.refl _ _).alloc (Nat.le_refl _) _).drew, heap_alloc_new w _⟩
  have hS1 := hS.alloc (Nat.le_refl _) (.cells (ns .u8 (List.replicate 38 0)).toArray 5)
  have ho := room_own ((w.alloc (.cells (pc p).toArray 54)).drew) w.heap.size 38 (w.heap.size + 1) (by simp) (by simp) (by decide)
  have H1 := Lib.hid (And.intro hS1 ho)
  clear hS hS1 ho
  go_enter Try.func61, Try.ntmps61
  go_wp2_with (fail)
  go_region_law ((refine step_appN _ rfl (.tmp 4) (.tmp 6) _ (by rfl) w.heap.size 5 .u8 1 Try.underlying40 inf_b (some ⟨w.heap.size + 1, 0, none⟩) 0 38 [] (by rfl) H1.out.2 (some ⟨w.heap.size, 0, none⟩) 32 32 p.tx (by rfl) (pt_rd _ p hp _ H1.out.1.2) (by decide) (by decide) (by simp <;> omega) ?_; intro A1 c1 w1 ho1 hg1 _))
  have hS2 := H1.out.1.grown (Nat.le_refl _) hg1 (fun k hk => by simp [blk] at hk; omega)
  have k2 := pt_cells (more := []) hp (by rw [List.append_nil]; exact hS2.2)
  obtain ⟨kn, kh⟩ := k2
  have hz := hS2.1.size
  have H2 := Lib.hid (And.intro hS2 ho1)
  clear hS2 hg1 ho1 H1 hmk
  go_wp2_with (fail)
  refine (clow_is _ (by omega) (putF_2 hn)).mono ?_
  rintro e w2 ⟨A2, c2, rfl, ho2, hb2⟩
  have hS3 := H2.out.1.below (Nat.le_refl _) hb2
  have ho1 := H2.out.2.below hb2
  have H3 := Lib.hid (And.intro hS3 (And.intro ho1 ho2.rd))
  have hz := hS3.1.size
  clear hS3 ho1 ho2 hb2 kn kh H2
  go_wp2_with (at_builtin; refine Stop.mk ?_)
  refine Stop.out ?_
  refine wpList_appN _ rfl (.tmp 8) (.tmp 12) _ rfl w.heap.size 5 .u8 1 Try.underlying40 inf_b A1 _ c1 _ rfl H3.out.2.1 A2 _ c2 _ rfl H3.out.2.2 (by simp only [lowF_length]; decide) (by simp only [lowF_length]; decide) hz ?_
  intro A3 c3 w3 ho3 hg3 _
  have hS4 := H3.out.1.app (Nat.le_refl _) H3.out.2.1 (Nat.le_refl _) (by decide) hg3
  obtain ⟨kn, kh⟩ := pt_cells (more := []) hp (by rw [List.append_nil]; exact hS4.2)
  have hz := hS4.1.size
  have H4 := Lib.hid (And.intro hS4 ho3)
  clear hS4 ho3 hg3 H3
  go_wp2_with (fail)
  refine (clow_is _ (by omega) (putF_4 hh)).mono ?_
  rintro e w4 ⟨A4, c4, rfl, ho4, hb4⟩
  have hS5 := H4.out.1.below (Nat.le_refl _) hb4
  have H5 := Lib.hid (And.intro hS5 (And.intro (H4.out.2.below hb4) ho4.rd))
  have hz := hS5.1.size
  clear hS5 ho4 hb4 kn kh H4
  go_wp2_with (at_builtin; refine Stop.mk ?_)
  refine Stop.out ?_
  refine wpList_appN _ rfl (.tmp 14) (.tmp 18) _ rfl w.heap.size 5 .u8 1 Try.underlying40 inf_b A3 _ c3 _ rfl H5.out.2.1 A4 _ c4 _ rfl H5.out.2.2 (by simp only [lowF_length]; decide) (by simp only [lowF_length]; decide) hz ?_
  intro A6 c6 w6 ho6 hg6 _
  have hS6 := H5.out.1.app (Nat.le_refl _) H5.out.2.1 (Nat.le_refl _) (by decide) hg6
  have H6 := Lib.hid (And.intro hS6.1 ho6)
  clear hS6 ho6 hg6 H5
  go_wp2_with (fail)
  go_ret
  exact ⟨A6, c6, rfl, H6.out.2, H6.out.1⟩
end Go.Proofs.Ytofclanljhfkiaa
/- What the reference's PutPoint answers. -/
namespace Go.Proofs.Ytofclanljhfkiaa
open Go.RowKit Go.Proofs En Co
set_option linter.unusedVariables false
set_option linter.unusedSimpArgs false
set_option maxRecDepth 20000

theorem wrap_u64 {n : Int} (h : 0 ≤ n ∧ n < 18446744073709551616) : IntKind.u64.wrap n = n := by
  simp [IntKind.wrap, IntKind.signed, IntKind.bits]; omega
theorem pt_cell {w : World} {p : Pt} (hp : p.ok) {g : Nat} {more : List Value} {t : TypeId} (hg : w.heap[g]? = some (.cells (pc p ++ more).toArray t (0, 0))) {k : Nat} (hk : k < 32) :
    w.cell? ⟨g, k, none⟩ = some (.int .u8 (p.tx.getD k 0)) := by
  have hl := pc_length hp
  rw [cell_of_row w g k _ _ _ hg]
  have : (pc p ++ more)[k]? = some (.int .u8 (p.tx.getD k 0)) := by rw [List.getElem?_append_left (by omega)]; exact pc_tx hp k hk
  simpa using this
/-- what a row of bytes that another call made reads, behind a write to one's own row that was there -/
theorem rd_past {w w1 w2 : World} {base base' : Nat} {A B : Option Addr} {n c m d : Nat} {p q : List Int} (ho : OwnB w base A n c p) (hq : OwnB w1 base' B m d q) (hb : w.heap.size ≤ base') (hg : w1.grownBy w2 (blk A)) : RdN w2 .u8 B m q :=
  (OwnN.grown hq hg fun k hk e => by have := (OwnN.lt hq k hk).1; have := (OwnN.lt ho k e).2; omega).rd

/-- what a region that reads the number and the height of a point in its box needs -/
abbrev StP (w : World) (p : Pt) (w' : World) : Prop := St w.heap.size w w.heap.size (.cells (pc p).toArray 54 (0, 0)) w' ∧ w'.cell? ⟨w.heap.size, 32, none⟩ = some (.int .u16 p.n) ∧ w'.cell? ⟨w.heap.size, 33, none⟩ = some (.int .u32 p.h)
theorem StP.of {w w' : World} {p : Pt} (hp : p.ok) (h : St w.heap.size w w.heap.size (.cells (pc p).toArray 54 (0, 0)) w') : StP w p w' :=
  ⟨h, pt_cells (more := []) hp (by rw [List.append_nil]; exact h.2)⟩
theorem StP.below {w w' w2 : World} {p : Pt} (hp : p.ok) (h : StP w p w') (hb : Below w'.heap.size w' w2) : StP w p w2 := StP.of hp (h.1.below (Nat.le_refl _) hb)
theorem StP.app {w w' w2 : World} {p : Pt} {A : Option Addr} {n c : Nat} {q : List Int} (hp : p.ok) (h : StP w p w') (ho : OwnB w' w.heap.size A n c q) (hg : w'.grownBy w2 (blk A)) : StP w p w2 :=
  StP.of hp (h.1.app (Nat.le_refl _) ho (Nat.le_refl _) (by decide) hg)

set_option maxHeartbeats 1000000 in
theorem rputPoint_any (p : Pt) (hp : p.ok) (w : World) :
    Calls Try.prog 89 #[.agg (pc p).toArray] w fun e w' => ∃ A c, e = .returned (.slice A 38 c) ∧ OwnB w' w.heap.size A 38 c (putPF p) ∧ Below w.heap.size w w' := by
  have hn := hp.n
  have hh := hp.h
  have hS : St w.heap.size w w.heap.size (.cells (pc p).toArray 54 (0, 0)) (w.alloc (.cells (pc p).toArray 54)) := ⟨((Below.refl _ _).alloc (Nat.le_refl _) _), heap_alloc_new w _⟩
  have H1 := Lib.hid hS
  have PL := Lib.hid hp.len
  clear hS
  go_enter Try.func89, Try.ntmps89
  go_wp2_with (fail)
  go_loopw [3, 4] (fun v i wr => ∃ k : Nat, k ≤ 32 ∧ i = .int .i64 k ∧ (∃ A c, v = .slice A k c ∧ OwnB wr w.heap.size A k c (p.tx.take k)) ∧ St w.heap.size w w.heap.size (.cells (pc p).toArray 54 (0, 0)) wr) (fun _ i _ => 32 - (intOf i).toNat)
  case atStart => exact ⟨0, by omega, rfl, ⟨none, 0, rfl, OwnN.nil _ _ _ _⟩, H1.out⟩
  case round =>
    obtain ⟨k, hk, rfl, ⟨A, c, rfl, ho⟩, hSt⟩ := hrel
    have hz := hSt.1.size
    by_cases hlt : k < 32
    · have hc := pt_cell (more := []) hp (by rw [List.append_nil]; exact hSt.2) hlt
      have hSn := take_snoc0 p.tx k (by rw [PL.out]; exact hlt)
      have SN := Lib.hid hSn
      have HH := Lib.hid (And.intro hSt ho)
      clear hSn hSt ho H1
      have d0 : decide ((k : Int) < 32) = true := decide_eq_true (by omega)
      generalize p.tx.getD k 0 = x at *
      go_wp2_with (at_builtin; refine Stop.mk ?_)
      refine Stop.out ?_
      refine wpList_appN _ rfl (.tmp 9) (.tmp 14) _ rfl w.heap.size 5 .u8 1 Try.underlying40 inf_b A k c _ rfl (OwnN.alloc HH.out.2 _) (some ⟨wr.heap.size, 0, none⟩) 1 1 [x] rfl (rd_lit wr [x] 1 (by omega) rfl) (by unfold maxLen; omega) (by omega) (by simp; omega) ?_
      intro A3 c3 w3 ho3 hg3 _
      have hS4 := (HH.out.1.alloc (Nat.le_refl _) _).app (Nat.le_refl _) (OwnN.alloc HH.out.2 _) (Nat.le_refl _) (by decide) hg3
      have H3 := Lib.hid (And.intro hS4 ho3)
      clear hS4 ho3 hg3 HH
      go_wp2_with (fail)
      go_roundw
      case rel => exact ⟨k + 1, by omega, by go_num, ⟨A3, c3, rfl, by rw [SN.out]; exact H3.out.2⟩, H3.out.1⟩
      case measure => simp [intOf]; omega
    · obtain rfl : k = 32 := by omega
      obtain ⟨kn, kh⟩ := pt_cells (more := []) hp (by rw [List.append_nil]; exact hSt.2)
      rw [List.take_of_length_le (by rw [PL.out]; exact Nat.le_refl _)] at ho
      have hlo := OwnN.lt ho
      have HH := Lib.hid (And.intro hSt ho)
      have LO := Lib.hid hlo
      clear hSt ho H1 hlo
      have d0 : decide (((32 : Nat) : Int) < 32) = false := by decide
      have hS0 : StP w p wr := ⟨HH.out.1, kn, kh⟩
      have C2 := Lib.hid fun w' => rclow_is w' (show 0 ≤ p.n ∧ p.n < 18446744073709551616 by omega) (putF_2 hn)
      have C4 := Lib.hid fun w' => rclow_is w' (show 0 ≤ p.h ∧ p.h < 18446744073709551616 by omega) (putF_4 hh)
      have wn : IntKind.u64.wrap p.n = p.n := wrap_u64 (by omega)
      have wh : IntKind.u64.wrap p.h = p.h := wrap_u64 (by omega)
      go_wp2_with (fail)
      go_region_held3? (fun w' => StP w p w') (first | exact hS4 | exact hS3 | exact hS2 | exact hS1 | exact ⟨⟨hS0.1.1.drew, hS0.1.2⟩, hS0.2.1, hS0.2.2⟩)
        (first
          | (go_at_call 115; (with_reducible refine (C2.out _).mono ?_); rintro e w1 ⟨A2, c2, rfl, ho2, hb1⟩; have hS1 := StP.below hp (w' := wr.drew) ⟨⟨hS0.1.1.drew, hS0.1.2⟩, hS0.2.1, hS0.2.2⟩ hb1)
          | (go_at_call 115; (with_reducible refine (C4.out _).mono ?_); rintro e w3 ⟨A4, c4, rfl, ho4, hb3⟩; have hS3 := StP.below hp hS2 hb3)
          | (refine step_appN _ rfl (.tmp 16) (.tmp 20) _ (by rfl) w.heap.size 5 .u8 1 Try.underlying40 inf_b A 32 c p.tx (by rfl) (OwnN.below (OwnN.drew HH.out.2) hb1) A2 _ c2 _ (by rfl) ho2.rd (by simp only [lowF_length]; decide) (by simp only [lowF_length]; decide) (hS1.1.1.size) ?_; intro A3 c3 w2 ho3 hg2 _; have hS2 := StP.app hp hS1 (OwnN.below (OwnN.drew HH.out.2) hb1) hg2)
          | (refine step_appN _ rfl (.tmp 21) (.tmp 25) _ (by rfl) w.heap.size 5 .u8 1 Try.underlying40 inf_b A3 _ c3 _ (by rfl) (OwnN.below ho3 hb3) A4 _ c4 _ (by rfl) ho4.rd (by simp only [lowF_length]; decide) (by simp only [lowF_length]; decide) (hS3.1.1.size) ?_; intro A5 c5 w4 ho5 hg4 _; have hS4 := StP.app hp hS3 (OwnN.below ho3 hb3) hg4))
      have H6 := Lib.hid (And.intro hS4.1.1 ho5)
      clear wn wh hS1 hS2 hS3 hS4 ho5 ho4 ho3 ho2 hb1 hb3 hg2 hg4
      go_wp2_with (fail)
      go_ret
      exact ⟨A5, c5, rfl, H6.out.2, H6.out.1⟩
end Go.Proofs.Ytofclanljhfkiaa
/- What Less answers, in the program and in the reference. -/
namespace Go.Proofs.Ytofclanljhfkiaa
open Go.RowKit Go.Proofs En Co
set_option linter.unusedVariables false
set_option linter.unusedSimpArgs false
set_option maxRecDepth 20000

theorem lexB_cmp : ∀ (xs ys r s : List Int), xs.length = ys.length → lexB (xs ++ r) (ys ++ s) = if cmpL xs ys = 0 then lexB r s else decide (cmpL xs ys < 0) := by
  intro xs
  induction xs with
  | nil =>
    intro ys r s h
    cases ys with
    | nil => rfl
    | cons y ys => simp at h
  | cons x xs ih =>
    intro ys r s h
    cases ys with
    | nil => simp at h
    | cons y ys =>
      have hl : xs.length = ys.length := by simpa using h
      show (if x = y then lexB (xs ++ r) (ys ++ s) else decide (x < y)) = _
      unfold cmpL
      by_cases h1 : x < y
      · have h3 : ¬ x = y := by omega
        rw [if_neg h3, if_pos h1]
        rw [if_neg (by decide), decide_eq_true h1]
        rfl
      · rw [if_neg h1]
        by_cases h2 : y < x
        · have h3 : ¬ x = y := by omega
          rw [if_neg h3, if_pos h2, if_neg (by decide), decide_eq_false h1]
          rfl
        · have h3 : x = y := by omega
          rw [if_pos h3, if_neg h2, ih ys r s hl]
theorem lessF_eq (a b : Pt) (ha : a.ok) (hb : b.ok) : lessF a b = if cmpL a.tx b.tx = 0 then (if a.n = b.n then decide (a.h < b.h) else decide (a.n < b.n)) else decide (cmpL a.tx b.tx < 0) := by
  unfold lessF Pt.key
  rw [lexB_cmp _ _ _ _ (by rw [ha.len, hb.len])]
  congr 1
  show (if a.n = b.n then (if a.h = b.h then false else decide (a.h < b.h)) else decide (a.n < b.n)) = _
  by_cases h : a.h = b.h
  · rw [if_pos h, decide_eq_false (show ¬ a.h < b.h by omega)]
  · rw [if_neg h]
/-- two boxes, one behind the other -/
theorem two_box (w : World) (x y : Obj) : ((w.alloc x).alloc y).heap[w.heap.size]? = some x ∧ ((w.alloc x).alloc y).heap[w.heap.size + 1]? = some y := by
  constructor
  · rw [Below.heap_alloc (w.alloc x) y _ (by simp)]
    exact heap_alloc_new w _
  · have h := heap_alloc_new (w.alloc x) y
    have e : (w.alloc x).heap.size = w.heap.size + 1 := by simp
    rw [e] at h
    exact h
theorem pt_rd' {w : World} {p : Pt} (hp : p.ok) {g : Nat} {more : List Value} {t : TypeId} (hg : w.heap[g]? = some (.cells (pc p ++ more).toArray t (0, 0))) : RdN w .u8 (some ⟨g, 0, none⟩) 32 p.tx := by
  refine ⟨by rw [ns_length, hp.len], fun _ => ⟨_, rfl, (Array.getElem?_eq_some_iff.1 hg).1, fun j u hu => ?_⟩⟩
  rw [add_new, cell_of_row w g j _ _ _ hg]
  have hj : j < p.tx.length := by have := (List.getElem?_eq_some_iff.1 hu).1; rwa [ns_length] at this
  have : (pc p ++ more)[j]? = some u := by unfold pc; rw [List.append_assoc, List.getElem?_append_left (by rw [ns_length]; exact hj)]; exact hu
  simpa using this

set_option maxHeartbeats 400000 in
theorem less_any (a b : Pt) (ha : a.ok) (hb : b.ok) (w : World) :
    Calls Try.prog 77 #[.agg (pc a).toArray, .agg (pc b).toArray] w fun e w' => e = .returned (.bool (lessF a b)) ∧ Below w.heap.size w w' := by
  have hle := lessF_eq a b ha hb
  obtain ⟨h0, h1⟩ := two_box w (.cells (pc a).toArray 54) (.cells (pc b).toArray 54)
  have hbel : Below w.heap.size w ((w.alloc (.cells (pc a).toArray 54)).alloc (.cells (pc b).toArray 54)) := belA ((Below.refl _ _).alloc (Nat.le_refl _) _) _ (Nat.le_refl _)
  obtain ⟨an, ah⟩ := pt_cells (more := []) ha (by rw [List.append_nil]; exact h0)
  obtain ⟨bn, bh⟩ := pt_cells (more := []) hb (by rw [List.append_nil]; exact h1)
  have ra := pt_rd' (more := []) ha (by rw [List.append_nil]; exact h0)
  have rb := pt_rd' (more := []) hb (by rw [List.append_nil]; exact h1)
  have C := Lib.hid (compare_any _ 32 32 a.tx _ 32 32 b.tx _ ra.drew rb.drew ha.isB hb.isB)
  have BL := Lib.hid hbel
  clear h0 h1 ra rb hbel
  generalize cmpL a.tx b.tx = r at *
  by_cases hr : r = 0
  · rw [if_pos hr] at hle
    have d1 : (r != 0) = false := by rw [bne_eq_false_iff_eq]; exact hr
    by_cases hn : a.n = b.n
    · rw [if_pos hn] at hle
      have LE := Lib.hid hle
      clear hle
      have d2 : (a.n != b.n) = false := by rw [bne_eq_false_iff_eq]; exact hn
      clear hr hn
      go_enter Try.func77, Try.ntmps77
      go_wp2_with (fail)
      go_region_with ((go_at_call 110; (with_reducible refine C.out.mono ?_); rintro e w1 ⟨rfl, rfl⟩))
      go_wp2_with (fail)
      go_ret
      exact ⟨by rw [LE.out]; rfl, BL.out.drew⟩
    · rw [if_neg hn] at hle
      have LE := Lib.hid hle
      clear hle
      have d2 : (a.n != b.n) = true := by rw [bne_iff_ne]; exact hn
      clear hr hn
      go_enter Try.func77, Try.ntmps77
      go_wp2_with (fail)
      go_region_with ((go_at_call 110; (with_reducible refine C.out.mono ?_); rintro e w1 ⟨rfl, rfl⟩))
      go_wp2_with (fail)
      go_ret
      exact ⟨by rw [LE.out]; rfl, BL.out.drew⟩
  · rw [if_neg hr] at hle
    have d1 : (r != 0) = true := by rw [bne_iff_ne]; exact hr
    have LE := Lib.hid hle
    clear hle
    clear hr
    go_enter Try.func77, Try.ntmps77
    go_wp2_with (fail)
    go_region_with ((go_at_call 110; (with_reducible refine C.out.mono ?_); rintro e w1 ⟨rfl, rfl⟩))
    go_wp2_with (fail)
    go_ret
    exact ⟨by rw [LE.out]; rfl, BL.out.drew⟩

theorem cmpL_take {xs ys : List Int} {k : Nat} (h : xs.take k = ys.take k) (hk : k < xs.length) (hk2 : k < ys.length) (hne : xs.getD k 0 ≠ ys.getD k 0) : cmpL xs ys = if xs.getD k 0 < ys.getD k 0 then -1 else 1 := by
  induction k generalizing xs ys with
  | zero =>
    match xs, ys with
    | [], _ => simp at hk
    | _, [] => simp at hk2
    | x :: xs, y :: ys =>
      have h1 : (x :: xs).getD 0 0 = x := rfl
      have h2 : (y :: ys).getD 0 0 = y := rfl
      rw [h1, h2] at hne ⊢
      unfold cmpL
      by_cases h3 : x < y
      · rw [if_pos h3, if_pos h3]
      · rw [if_neg h3, if_neg h3, if_pos (by omega)]
  | succ k ih =>
    match xs, ys with
    | [], _ => simp at hk
    | _, [] => simp at hk2
    | x :: xs, y :: ys =>
      simp only [List.take_succ_cons, List.cons.injEq] at h
      obtain ⟨h1, h2⟩ := h
      subst h1
      have e1 : (x :: xs).getD (k + 1) 0 = xs.getD k 0 := by rw [List.getD_eq_getElem?_getD, List.getD_eq_getElem?_getD, List.getElem?_cons_succ]
      have e2 : (x :: ys).getD (k + 1) 0 = ys.getD k 0 := by rw [List.getD_eq_getElem?_getD, List.getD_eq_getElem?_getD, List.getElem?_cons_succ]
      rw [e1, e2] at hne ⊢
      unfold cmpL
      rw [if_neg (Int.lt_irrefl x), if_neg (Int.lt_irrefl x)]
      exact ih h2 (by simpa using hk) (by simpa using hk2) hne
theorem cmpL_self (xs : List Int) : cmpL xs xs = 0 := by
  induction xs with
  | nil => rfl
  | cons x xs ih => unfold cmpL; rw [if_neg (Int.lt_irrefl x), if_neg (Int.lt_irrefl x), ih]

set_option maxHeartbeats 1000000 in
theorem rless_any (a b : Pt) (ha : a.ok) (hb : b.ok) (w : World) :
    Calls Try.prog 35 #[.agg (pc a).toArray, .agg (pc b).toArray] w fun e w' => e = .returned (.bool (lessF a b)) ∧ Below w.heap.size w w' := by
  have hle := lessF_eq a b ha hb
  obtain ⟨h0, h1⟩ := two_box w (.cells (pc a).toArray 54) (.cells (pc b).toArray 54)
  have hbel : Below w.heap.size w ((w.alloc (.cells (pc a).toArray 54)).alloc (.cells (pc b).toArray 54)) := belA ((Below.refl _ _).alloc (Nat.le_refl _) _) _ (Nat.le_refl _)
  have H0 := Lib.hid (And.intro hle (And.intro hbel (And.intro h0 h1)))
  have HA := Lib.hid ha.len
  have HB := Lib.hid hb.len
  clear hle hbel h0 h1
  go_enter Try.func35, Try.ntmps35
  go_wp2_with (fail)
  go_loopw [5] (fun i wr => ∃ k : Nat, k ≤ 32 ∧ i = .int .i64 k ∧ a.tx.take k = b.tx.take k ∧ Below w.heap.size w wr ∧ wr.heap[w.heap.size]? = some (.cells (pc a).toArray 54 (0, 0)) ∧ wr.heap[w.heap.size + 1]? = some (.cells (pc b).toArray 54 (0, 0))) (fun i _ => 32 - (intOf i).toNat)
  case atStart => exact ⟨0, by omega, rfl, by simp, H0.out.2⟩
  case round =>
    obtain ⟨k, hk, rfl, ht, hbel, h0, h1⟩ := hrel
    by_cases hlt : k < 32
    · have ca := pt_cell (more := []) ha (by rw [List.append_nil]; exact h0) hlt
      have cb := pt_cell (more := []) hb (by rw [List.append_nil]; exact h1) hlt
      have d0 : decide ((k : Int) < 32) = true := decide_eq_true (by omega)
      have i1 : (0 : Int) ≤ (k : Int) := by omega
      have i2 : (k : Int) < 32 := by omega
      obtain ⟨x, hx⟩ : ∃ x, a.tx.getD k 0 = x := ⟨_, rfl⟩
      obtain ⟨y, hy⟩ : ∃ y, b.tx.getD k 0 = y := ⟨_, rfl⟩
      rw [hx] at ca
      rw [hy] at cb
      have HH := Lib.hid (And.intro ht (And.intro hbel (And.intro h0 (And.intro h1 (And.intro hx hy)))))
      clear ht hbel h0 h1 hx hy
      by_cases hxy : x = y
      · have d1 : (x != y) = false := by rw [bne_eq_false_iff_eq]; exact hxy
        have XY := Lib.hid hxy
        clear hxy
        go_wp2_with (fail)
        go_quiet (fail)
        go_wp2_with (fail)
        go_roundw
        case rel => exact ⟨k + 1, by omega, by go_num, take_eq_snoc (by rw [HA.out]; exact hlt) (by rw [HB.out]; exact hlt) HH.out.1 (by rw [HH.out.2.2.2.2.1, HH.out.2.2.2.2.2]; exact XY.out), belN HH.out.2.1 _, HH.out.2.2.1, HH.out.2.2.2.1⟩
        case measure => simp [intOf]; omega
      · have d1 : (x != y) = true := by rw [bne_iff_ne]; exact hxy
        have hl : lessF a b = decide (x < y) := by
          obtain ⟨q1, _, _, _, q5, q6⟩ := HH.out
          have hc := cmpL_take q1 (by rw [HA.out]; exact hlt) (by rw [HB.out]; exact hlt) (by rw [q5, q6]; exact hxy)
          rw [q5, q6] at hc
          rw [H0.out.1, hc]
          by_cases h : x < y
          · rw [if_pos h, decide_eq_true h]; rfl
          · rw [if_neg h, decide_eq_false h]; rfl
        have L := Lib.hid hl
        clear hxy hl
        go_wp2_with (fail)
        go_quiet (fail)
        go_wp2_with (fail)
        go_quiet (fail)
        go_wp2_with (fail)
        go_ret
        exact ⟨by rw [L.out]; rfl, belN (belN HH.out.2.1 _) _⟩
    · obtain rfl : k = 32 := by omega
      obtain ⟨an, ah⟩ := pt_cells (more := []) ha (by rw [List.append_nil]; exact h0)
      obtain ⟨bn, bh⟩ := pt_cells (more := []) hb (by rw [List.append_nil]; exact h1)
      have hle := H0.out.1
      rw [List.take_of_length_le (by rw [HA.out]; exact Nat.le_refl _), List.take_of_length_le (by rw [HB.out]; exact Nat.le_refl _)] at ht
      rw [ht, cmpL_self, if_pos rfl] at hle
      have d0 : decide (((32 : Nat) : Int) < 32) = false := by decide
      have BL := Lib.hid hbel
      clear ht hbel h0 h1 hlt
      by_cases hn : a.n = b.n
      · rw [if_pos hn] at hle
        have LE := Lib.hid hle
        have d2 : (a.n != b.n) = false := by rw [bne_eq_false_iff_eq]; exact hn
        clear hle hn
        go_wp2_with (fail)
        go_ret
        exact ⟨by rw [LE.out]; rfl, BL.out⟩
      · rw [if_neg hn] at hle
        have LE := Lib.hid hle
        have d2 : (a.n != b.n) = true := by rw [bne_iff_ne]; exact hn
        clear hle hn
        go_wp2_with (fail)
        go_ret
        exact ⟨by rw [LE.out]; rfl, BL.out⟩
end Go.Proofs.Ytofclanljhfkiaa
/- Coins in memory; what Same answers, in the program and in the reference. -/
namespace Go.Proofs.Ytofclanljhfkiaa
open Go.RowKit Go.Proofs En Co
set_option linter.unusedVariables false
set_option linter.unusedSimpArgs false
set_option maxRecDepth 20000

/-- a coin as it lies in memory: what it is, and where its lock lies -/
structure Cm where
  c : Cn
  A : Option Addr
  k : Nat
def Cm.lk (m : Cm) : Value := .slice m.A m.c.l.length m.k
def cc (m : Cm) : List Value := pc m.c.p ++ [.int .u64 m.c.v, .bool m.c.base, m.lk]
structure Cm.ok (w : World) (m : Cm) : Prop where
  c : m.c.ok
  arg : Arg w m.A m.c.l.length m.k m.c.l
theorem Cm.ok.below {w w' : World} {m : Cm} (h : m.ok w) (hb : Below w.heap.size w w') : m.ok w' := ⟨h.c, h.arg.below hb⟩
theorem cc_length {m : Cm} (h : m.c.p.ok) : (cc m).length = 37 := by unfold cc; rw [List.length_append, pc_length h]; rfl
theorem cc_get {m : Cm} (h : m.c.p.ok) : (cc m)[34]? = some (.int .u64 m.c.v) ∧ (cc m)[35]? = some (.bool m.c.base) ∧ (cc m)[36]? = some m.lk := by
  have hl := pc_length h
  unfold cc
  refine ⟨?_, ?_, ?_⟩ <;> rw [List.getElem?_append_right (by omega), hl] <;> rfl
theorem cc_cells {w : World} {m : Cm} (h : m.c.p.ok) {g : Nat} {t : TypeId} (hg : w.heap[g]? = some (.cells (cc m).toArray t (0, 0))) :
    w.cell? ⟨g, 34, none⟩ = some (.int .u64 m.c.v) ∧ w.cell? ⟨g, 35, none⟩ = some (.bool m.c.base) ∧ w.cell? ⟨g, 36, none⟩ = some m.lk ∧ w.rangeAt g 0 (pc m.c.p) := by
  obtain ⟨h1, h2, h3⟩ := cc_get h
  refine ⟨?_, ?_, ?_, fun j v hv => ?_⟩
  · rw [cell_of_row w g 34 _ _ _ hg]; simpa using h1
  · rw [cell_of_row w g 35 _ _ _ hg]; simpa using h2
  · rw [cell_of_row w g 36 _ _ _ hg]; simpa using h3
  · rw [Nat.zero_add, cell_of_row w g j _ _ _ hg]
    have : (cc m)[j]? = some v := by unfold cc; rw [List.getElem?_append_left ((List.getElem?_eq_some_iff.1 hv).1)]; exact hv
    simpa using this
theorem pc_one (p : Pt) : ∀ u ∈ pc p, u.oneCell' = true := by
  intro u hu
  unfold pc at hu
  rcases List.mem_append.1 hu with hu | hu
  · exact num_one (ns_num _ _ u hu)
  · rcases List.mem_cons.1 hu with rfl | hu
    · rfl
    · rcases List.mem_singleton.1 hu with rfl; rfl
theorem cc_one (m : Cm) : ∀ u ∈ cc m, u.oneCell' = true := by
  intro u hu
  unfold cc at hu
  rcases List.mem_append.1 hu with hu | hu
  · exact pc_one _ u hu
  · rcases List.mem_cons.1 hu with rfl | hu
    · rfl
    · rcases List.mem_cons.1 hu with rfl | hu
      · rfl
      · rcases List.mem_singleton.1 hu with rfl; rfl
theorem ns_inj {xs ys : List Int} {k : IntKind} (h : ns k xs = ns k ys) : xs = ys := by
  unfold ns at h
  induction xs generalizing ys with
  | nil => cases ys with
    | nil => rfl
    | cons y ys => cases h
  | cons x xs ih => cases ys with
    | nil => cases h
    | cons y ys =>
      simp only [List.map_cons, List.cons.injEq, Value.int.injEq, true_and] at h
      rw [h.1, ih h.2]
theorem three_of {α β : Type} {g : α → β} {l : List α} {x y z : β} (h : l.map g = [x, y, z]) : ∃ a b c, l = [a, b, c] ∧ g a = x ∧ g b = y ∧ g c = z := by
  match l, h with
  | [a, b, c], h =>
    simp only [List.map_cons, List.map_nil, List.cons.injEq, and_true] at h
    exact ⟨a, b, c, rfl, h.1, h.2.1, h.2.2⟩

theorem size_pt : (Try.prog.info? 54).map (·.size) = some 34 := by kernel_rfl
theorem size_coin : (Try.prog.info? 57).map (·.size) = some 37 := by kernel_rfl
theorem size_hash : (Try.prog.info? 50).map (·.size) = some 32 := by kernel_rfl
theorem size_u8 : (Try.prog.info? 5).map (·.size) = some 1 := by kernel_rfl

theorem run_part_row {P : Program} (w : World) (t : TypeId) (d : TypeDesc) (hu : P.underlying t = some d) (hd : (match d with | .struct _ | .array _ _ => true | _ => false) = true) (n : Nat) (hi : (P.info? t).map (·.size) = some n) (cs : Array Value) (o : Nat) :
    (part t cs o).run P w = .ok (.agg (cs.extract o (o + n))) w := by
  have hagg : (isAgg t).run P w = .ok true w := by
    unfold isAgg
    rw [Sem.run_bind, run_underlying hu w]
    cases d <;> simp_all
  cases hq : P.info? t with
  | none => simp [hq] at hi
  | some i =>
    have hs : i.size = n := by simpa [hq] using hi
    simp [part, Sem.run_bind, hagg, sizeOf, typeInfo, hq, hs]
theorem run_part_cell {P : Program} (w : World) (t : TypeId) (d : TypeDesc) (hu : P.underlying t = some d) (hd : (match d with | .struct _ | .array _ _ => true | _ => false) = false) (cs : Array Value) (o : Nat) (v : Value) (hv : cs[o]? = some v) :
    (part t cs o).run P w = .ok v w := by
  have hagg : (isAgg t).run P w = .ok false w := by
    unfold isAgg
    rw [Sem.run_bind, run_underlying hu w]
    cases d <;> simp_all
  simp [part, Sem.run_bind, hagg, hv]

theorem eqFields_cons {P : Program} (w : World) (d : Nat) (xs ys : Array Value) (f : Field) (fs : List Field) (x y : Value) (r : Bool) (hn : f.name ≠ "_") (hx : (part f.type xs f.offset).run P w = .ok x w) (hy : (part f.type ys f.offset).run P w = .ok y w)
    (hr : (Op.equalIn d f.type x y).run P w = .ok r w) : (Op.eqFields d xs ys (f :: fs)).run P w = if r = true then (Op.eqFields d xs ys fs).run P w else .ok false w := by
  show (ite (f.name ≠ "_") _ _ : Sem Bool).run P w = _
  rw [if_pos hn]
  simp only [Sem.run_bind, hx, hy, hr, Result.andThen_ok]
  cases r <;> rfl
theorem eqIn_pt (d : Nat) (w : World) (a b : Pt) (ha : a.ok) (hb : b.ok) : (Op.equalIn (d + 3) 54 (.agg (pc a).toArray) (.agg (pc b).toArray)).run Try.prog w = .ok (decide (a = b)) w := by
  rw [show d + 3 = (d + 2) + 1 from rfl, run_equalIn_agg w (d + 2) 54 _ _ (by kernel_rfl) (by kernel_rfl)]
  have hex : ∀ p : Pt, p.ok → (pc p).toArray.extract 0 (0 + 32) = (ns .u8 p.tx).toArray := by
    intro p hp
    unfold pc
    apply Array.ext'
    simp [ns_length, hp.len]
  have fs : (Try.prog.fieldsOf 54).toList.map (fun f => (f.name, f.type, f.offset)) = [("Tx", 50, 0), ("N", 51, 32), ("Height", 52, 33)] := by kernel_rfl
  obtain ⟨f0, f1, f2, hl, e0, e1, e2⟩ := three_of fs
  rw [hl]
  simp only [Prod.mk.injEq] at e0 e1 e2
  obtain ⟨n0, t0, o0⟩ := e0
  obtain ⟨n1, t1, o1⟩ := e1
  obtain ⟨n2, t2, o2⟩ := e2
  have q0 : ("Tx" : String) ≠ "_" := by decide
  have q1 : ("N" : String) ≠ "_" := by decide
  have q2 : ("Height" : String) ≠ "_" := by decide
  have pn : ∀ p : Pt, p.ok → (pc p).toArray[32]? = some (.int .u16 p.n) := fun p hp => by simpa using pc_n hp
  have ph : ∀ p : Pt, p.ok → (pc p).toArray[33]? = some (.int .u32 p.h) := fun p hp => by simpa using pc_h hp
  have i1 := run_equalIn_int w (d + 1) 51 .u16 .u16 a.n b.n Try.underlying51
  have i2 := run_equalIn_int w (d + 1) 52 .u32 .u32 a.h b.h Try.underlying52
  have i0 := run_equalIn_bytes w d 50 5 32 Try.underlying50 Try.underlying5 size_u8 a.tx b.tx ha.len hb.len
  have pa := run_part_row w 50 _ Try.underlying50 rfl 32 size_hash (pc a).toArray 0
  have pb := run_part_row w 50 _ Try.underlying50 rfl 32 size_hash (pc b).toArray 0
  have pa1 := run_part_cell w 51 _ Try.underlying51 rfl _ 32 _ (pn a ha)
  have pb1 := run_part_cell w 51 _ Try.underlying51 rfl _ 32 _ (pn b hb)
  have pa2 := run_part_cell w 52 _ Try.underlying52 rfl _ 33 _ (ph a ha)
  have pb2 := run_part_cell w 52 _ Try.underlying52 rfl _ 33 _ (ph b hb)
  rw [hex a ha] at pa
  rw [hex b hb] at pb
  generalize Try.prog = P at *
  generalize (pc a).toArray = ca at *
  generalize (pc b).toArray = cb at *
  rw [eqFields_cons w (d + 2) ca cb f0 [f1, f2] _ _ _ (by rw [n0]; exact q0) (by rw [t0, o0]; exact pa) (by rw [t0, o0]; exact pb) (by rw [t0]; exact i0)]
  rw [eqFields_cons w (d + 2) ca cb f1 [f2] _ _ _ (by rw [n1]; exact q1) (by rw [t1, o1]; exact pa1) (by rw [t1, o1]; exact pb1) (by rw [t1]; exact i1)]
  rw [eqFields_cons w (d + 2) ca cb f2 [] _ _ _ (by rw [n2]; exact q2) (by rw [t2, o2]; exact pa2) (by rw [t2, o2]; exact pb2) (by rw [t2]; exact i2)]
  have hend : (Op.eqFields (d + 2) ca cb []).run P w = .ok true w := rfl
  rw [hend]
  have hiff : a = b ↔ a.tx = b.tx ∧ a.n = b.n ∧ a.h = b.h := Pt.ext_iff
  by_cases h1 : a.tx = b.tx
  · by_cases h2 : a.n = b.n
    · by_cases h3 : a.h = b.h
      · rw [decide_eq_true h1, if_pos rfl, if_pos (beq_iff_eq.2 h2), if_pos (beq_iff_eq.2 h3), decide_eq_true (hiff.2 ⟨h1, h2, h3⟩)]
      · rw [decide_eq_true h1, if_pos rfl, if_pos (beq_iff_eq.2 h2), if_neg (fun h => h3 (beq_iff_eq.1 h)), decide_eq_false (fun h => h3 (hiff.1 h).2.2)]
    · rw [decide_eq_true h1, if_pos rfl, if_neg (fun h => h2 (beq_iff_eq.1 h)), decide_eq_false (fun h => h2 (hiff.1 h).2.1)]
  · rw [decide_eq_false h1, if_neg (by decide), decide_eq_false (fun h => h1 (hiff.1 h).1)]
theorem guard_pt (op : BinOp) (x y : Operand) (w : World) (cs ds : Array Value) : (eqGuard op 54 x y (.agg cs) (.agg ds)).run Try.prog w = .ok () w :=
  run_eqGuard_agg w op 54 x y cs ds (by kernel_rfl)
theorem eq_pt (w : World) (a b : Pt) (ha : a.ok) (hb : b.ok) : (binOp .eql 54 (.agg (pc a).toArray) (.agg (pc b).toArray)).run Try.prog w = .ok (.bool (decide (a = b))) w := by
  rw [run_eql_struct, show (10000 : Nat) = 9997 + 3 from rfl, eqIn_pt 9997 w a b ha hb]
  rfl
theorem ne_pt (w : World) (a b : Pt) (ha : a.ok) (hb : b.ok) : (binOp .neq 54 (.agg (pc a).toArray) (.agg (pc b).toArray)).run Try.prog w = .ok (.bool (!decide (a = b))) w := by
  rw [run_neq_struct, show (10000 : Nat) = 9997 + 3 from rfl, eqIn_pt 9997 w a b ha hb]
  rfl
end Go.Proofs.Ytofclanljhfkiaa
