/- Points in memory; what PutPoint answers. -/
import Derived.Test.YtejablcdpakgoaaIs
import Derived.Test.YtejablcdpakgoaaCoinM
import Derived.Deep.MidRow
import Derived.Deep.RegionLaw
import Derived.Test.YtejablcdpakgoaaStep
namespace Go.Proofs.Ytejablcdpakgoaa
open Go.RowKit Go.Proofs En Co
set_option linter.unusedVariables false
set_option linter.unusedSimpArgs false

/-- a point's cells -/
def pc (p : Pt) : List Value := ns .u8 p.tx ++ [.int .u16 p.n, .int .u32 p.h]
theorem pc_length {p : Pt} (h : p.ok) : (pc p).length = 34 := by unfold pc; rw [List.length_append, ns_length, h.len]; rfl
theorem pc_tx {p : Pt} (h : p.ok) (i : Nat) (hi : i < 32) : (pc p)[i]? = some (.int .u8 (p.tx.getD i 0)) := by
  unfold pc
  rw [List.getElem?_append_left (by rw [ns_length, h.len]; exact hi)]
  exact ns_get _ _ _ (by rw [h.len]; exact hi)
theorem pc_n {p : Pt} (h : p.ok) : (pc p)[32]? = some (.int .u16 p.n) := by
  unfold pc
  rw [List.getElem?_append_right (by rw [ns_length, h.len]; exact Nat.le_refl _), ns_length, h.len]
  rfl
theorem pc_h {p : Pt} (h : p.ok) : (pc p)[33]? = some (.int .u32 p.h) := by
  unfold pc
  rw [List.getElem?_append_right (by rw [ns_length, h.len]; decide), ns_length, h.len]
  rfl

/-- what stays while a function makes memory: nothing old has turned, and block g is as it was laid -/
abbrev St (B : Nat) (w : World) (g : Nat) (r : Obj) (w' : World) : Prop := Below B w w' ∧ w'.heap[g]? = some r
theorem St.alloc {B : Nat} {w w' : World} {g : Nat} {r : Obj} (h : St B w g r w') (hB : B ≤ w.heap.size) (o : Obj) : St B w g r (w'.alloc o) :=
  ⟨belA h.1 o hB, by rw [Below.heap_alloc _ _ _ (Array.getElem?_eq_some_iff.1 h.2).1]; exact h.2⟩
theorem St.below {B : Nat} {w w' w2 : World} {g : Nat} {r : Obj} (h : St B w g r w') (hB : B ≤ w.heap.size) (hb : Below w'.heap.size w' w2) : St B w g r w2 :=
  ⟨h.1.trans (hb.mono (Nat.le_trans hB h.1.size)), (hb.block g (Array.getElem?_eq_some_iff.1 h.2).1).trans h.2⟩
theorem St.grown {B : Nat} {w w' w2 : World} {g : Nat} {r : Obj} {A : Option Addr} (h : St B w g r w') (hB : B ≤ w.heap.size) (hg : w'.grownBy w2 (blk A)) (hA : ∀ k, blk A = some k → B ≤ k ∧ k ≠ g) : St B w g r w2 :=
  ⟨h.1.grown hg (Nat.le_trans hB h.1.size) (fun k hk => (hA k hk).1), (hg.block g (Array.getElem?_eq_some_iff.1 h.2).1 (fun e => (hA g e.symm).2 rfl)).trans h.2⟩

theorem St.app {B base : Nat} {w w' w2 : World} {g : Nat} {xs : Array Value} {t : TypeId} {fr : Nat × Nat} {A : Option Addr} {n c : Nat} {p : List Int} (h : St B w g (.cells xs t fr) w') (hB : B ≤ w.heap.size) (ho : OwnB w' base A n c p) (hb : B ≤ base) (ht : 5 ≠ t) (hg : w'.grownBy w2 (blk A)) : St B w g (.cells xs t fr) w2 :=
  h.grown hB hg fun k hk => ⟨Nat.le_trans hb (OwnN.lt ho k hk).1, fun e => Own.ne_block ho h.2 ht (by rw [hk, e])⟩

theorem inf_b3 : ∃ i, Try.prog.info? 5 = some i ∧ i.zero = some (.int .u8 0) ∧ i.size = 1 ∧ i.bytes = 1 := info_of inf_b
/-- an empty row with room -/
theorem make_room (n : Nat) (hn : n ≤ 140737488355328) (w : World) : (Instr.makeSlice 29 (.int .i64 0) (.int .i64 (n : Int))).run Try.prog w = .ok (.slice (some ⟨w.heap.size, 0, none⟩) 0 n) (w.alloc (.cells (ns .u8 (List.replicate n 0)).toArray 5)) := by
  obtain ⟨i, hi, hz, hsz, hby⟩ := inf_b3
  have hr := run_make (P := Try.prog) w 29 5 i (.int .u8 0) Try.underlying29 hi hz .i64 .i64 0 n (Int.le_refl _) (by omega) (by rw [hby]; omega) (by omega)
  simp only [Int.toNat_natCast, hsz, Nat.mul_one] at hr
  rw [hr]
  have hl : (madeCells (Value.int .u8 0).cells n) = (ns .u8 (List.replicate n 0)).toArray := by
    apply Array.ext'
    have := toList_madeCells_one (.int .u8 0) n
    unfold ns
    rw [List.map_replicate]
    exact this
  rw [hl]
  rfl
theorem room_own (w : World) (base n g : Nat) (hg : g = w.heap.size) (hb : base ≤ w.heap.size) (hn : n ≤ maxLen) : OwnB (w.alloc (.cells (ns .u8 (List.replicate n 0)).toArray 5)) base (some ⟨g, 0, none⟩) 0 n [] := by
  subst hg
  have h := OwnN.laid (e := 5) (k := .u8) (w := w) (List.replicate n 0) n 0 hb (Nat.zero_le _) hn (by simp)
  simpa using h
theorem pt_rd (w : World) (p : Pt) (hp : p.ok) (g : Nat) (hg : w.heap[g]? = some (.cells (pc p).toArray 27 (0, 0))) : RdN w .u8 (some ⟨g, 0, none⟩) 32 p.tx := by
  refine ⟨by rw [ns_length, hp.len], fun _ => ⟨_, rfl, (Array.getElem?_eq_some_iff.1 hg).1, fun j u hu => ?_⟩⟩
  rw [add_new, cell_of_row w g j _ _ _ hg]
  have hj : j < p.tx.length := by have := (List.getElem?_eq_some_iff.1 hu).1; rwa [ns_length] at this
  have : (pc p)[j]? = some u := by unfold pc; rw [List.getElem?_append_left (by rw [ns_length]; exact hj)]; exact hu
  simpa using this

set_option maxHeartbeats 400000 in
theorem clow_is {n m : Int} {p : List Int} {q : Int} (w : World) (hn : 0 ≤ n ∧ n < 18446744073709551616) (h : putF n m = (p, q)) :
    Calls Try.prog 33 #[.int .u64 n, .int .i64 m] w fun e w' => ∃ A c, e = .returned (.slice A p.length c) ∧ OwnB w' w.heap.size A p.length c p ∧ Below w.heap.size w w' := by
  have C := Lib.hid (put_is w hn h)
  clear h
  go_enter Try.func33, Try.ntmps33
  go_wp2_with (fail)
  refine C.out.mono ?_
  rintro e w1 ⟨A, c, rfl, ho, hb⟩
  have H := Lib.hid (And.intro ho hb)
  clear ho hb C
  go_wp2_with (fail)
  go_ret
  exact ⟨A, c, rfl, H.out.1, H.out.2⟩

set_option maxHeartbeats 400000 in
theorem rclow_is {n m : Int} {p : List Int} {q : Int} (w : World) (hn : 0 ≤ n ∧ n < 18446744073709551616) (h : putF n m = (p, q)) :
    Calls Try.prog 39 #[.int .u64 n, .int .i64 m] w fun e w' => ∃ A c, e = .returned (.slice A p.length c) ∧ OwnB w' w.heap.size A p.length c p ∧ Below w.heap.size w w' := by
  have C := Lib.hid (rput_is w hn h)
  clear h
  go_enter Try.func39, Try.ntmps39
  go_wp2_with (fail)
  refine C.out.mono ?_
  rintro e w1 ⟨A, c, rfl, ho, hb⟩
  have H := Lib.hid (And.intro ho hb)
  clear ho hb C
  go_wp2_with (fail)
  go_ret
  exact ⟨A, c, rfl, H.out.1, H.out.2⟩
theorem putF_2 {n : Int} (h : 0 ≤ n ∧ n ≤ 65535) : putF n 2 = (lowF n 2, 0) := by
  unfold putF; rw [if_pos ⟨by decide, .inr (by show n < 256 ^ 2; omega)⟩]; rfl
theorem putF_4 {n : Int} (h : 0 ≤ n ∧ n ≤ 4294967295) : putF n 4 = (lowF n 4, 0) := by
  unfold putF; rw [if_pos ⟨by decide, .inr (by show n < 256 ^ 4; omega)⟩]; rfl
theorem putF_8 (n : Int) : putF n 8 = (lowF n 8, 0) := by
  unfold putF; rw [if_pos ⟨by decide, .inl (by decide)⟩]; rfl
theorem pt_cells {w : World} {p : Pt} (hp : p.ok) {g : Nat} {more : List Value} {t : TypeId} (hg : w.heap[g]? = some (.cells (pc p ++ more).toArray t (0, 0))) :
    w.cell? ⟨g, 32, none⟩ = some (.int .u16 p.n) ∧ w.cell? ⟨g, 33, none⟩ = some (.int .u32 p.h) := by
  have hl := pc_length hp
  constructor
  · rw [cell_of_row w g 32 _ _ _ hg]
    have : (pc p ++ more)[32]? = some (.int .u16 p.n) := by rw [List.getElem?_append_left (by omega)]; exact pc_n hp
    simpa using this
  · rw [cell_of_row w g 33 _ _ _ hg]
    have : (pc p ++ more)[33]? = some (.int .u32 p.h) := by rw [List.getElem?_append_left (by omega)]; exact pc_h hp
    simpa using this

set_option maxHeartbeats 400000 in
theorem putPoint_any (p : Pt) (hp : p.ok) (w : World) :
    Calls Try.prog 17 #[.agg (pc p).toArray] w fun e w' => ∃ A c, e = .returned (.slice A 38 c) ∧ OwnB w' w.heap.size A 38 c (putPF p) ∧ Below w.heap.size w w' := by
  have hn := hp.n
  have hh := hp.h
  have hmk : ∀ w : World, (Instr.makeSlice 29 (.int .i64 0) (.int .i64 38)).run Try.prog w = .ok (.slice (some ⟨w.heap.size, 0, none⟩) 0 38) (w.alloc (.cells (ns .u8 (List.replicate 38 0)).toArray 5)) := make_room 38 (by omega)
  have hS : St w.heap.size w w.heap.size (.cells (pc p).toArray 27 (0, 0)) ((w.alloc (.cells (pc p).toArray 27)).drew) := ⟨((Below.refl _ _).alloc (Nat.le_refl _) _).drew, heap_alloc_new w _⟩
  have hS1 := hS.alloc (Nat.le_refl _) (.cells (ns .u8 (List.replicate 38 0)).toArray 5)
  have ho := room_own ((w.alloc (.cells (pc p).toArray 27)).drew) w.heap.size 38 (w.heap.size + 1) (by simp) (by simp) (by decide)
  have H1 := Lib.hid (And.intro hS1 ho)
  clear hS hS1 ho
  go_enter Try.func17, Try.ntmps17
  go_wp2_with (fail)
  go_region_law ((refine step_appN _ rfl (.tmp 4) (.tmp 6) _ (by rfl) w.heap.size 5 .u8 1 Try.underlying29 inf_b (some ⟨w.heap.size + 1, 0, none⟩) 0 38 [] (by rfl) H1.out.2 (some ⟨w.heap.size, 0, none⟩) 32 32 p.tx (by rfl) (pt_rd _ p hp _ H1.out.1.2) (by decide) (by decide) (by simp <;> omega) ?_; intro A1 c1 w1 ho1 hg1 _))
  have hS2 := H1.out.1.grown (Nat.le_refl _) hg1 (fun k hk => by simp [blk] at hk; omega)
  have k2 := pt_cells (more := []) hp (by rw [List.append_nil]; exact hS2.2)
  obtain ⟨kn, kh⟩ := k2
  have hz := hS2.1.size
  have H2 := Lib.hid (And.intro hS2 ho1)
  clear hS2 hg1 ho1 H1 hmk
  go_wp2_with (fail)
  refine (clow_is _ (by omega) (putF_2 hn)).mono ?_
  rintro e w2 ⟨A2, c2, rfl, ho2, hb2⟩
  have hS3 := H2.out.1.below (Nat.le_refl _) hb2
  have ho1 := H2.out.2.below hb2
  have H3 := Lib.hid (And.intro hS3 (And.intro ho1 ho2.rd))
  have hz := hS3.1.size
  clear hS3 ho1 ho2 hb2 kn kh H2
  go_wp2_with (at_builtin; refine Stop.mk ?_)
  refine Stop.out ?_
  refine wpList_appN _ rfl (.tmp 8) (.tmp 12) _ rfl w.heap.size 5 .u8 1 Try.underlying29 inf_b A1 _ c1 _ rfl H3.out.2.1 A2 _ c2 _ rfl H3.out.2.2 (by simp only [lowF_length]; decide) (by simp only [lowF_length]; decide) hz ?_
  intro A3 c3 w3 ho3 hg3 _
  have hS4 := H3.out.1.app (Nat.le_refl _) H3.out.2.1 (Nat.le_refl _) (by decide) hg3
  obtain ⟨kn, kh⟩ := pt_cells (more := []) hp (by rw [List.append_nil]; exact hS4.2)
  have hz := hS4.1.size
  have H4 := Lib.hid (And.intro hS4 ho3)
  clear hS4 ho3 hg3 H3
  go_wp2_with (fail)
  refine (clow_is _ (by omega) (putF_4 hh)).mono ?_
  rintro e w4 ⟨A4, c4, rfl, ho4, hb4⟩
  have hS5 := H4.out.1.below (Nat.le_refl _) hb4
  have H5 := Lib.hid (And.intro hS5 (And.intro (H4.out.2.below hb4) ho4.rd))
  have hz := hS5.1.size
  clear hS5 ho4 hb4 kn kh H4
  go_wp2_with (at_builtin; refine Stop.mk ?_)
  refine Stop.out ?_
  refine wpList_appN _ rfl (.tmp 14) (.tmp 18) _ rfl w.heap.size 5 .u8 1 Try.underlying29 inf_b A3 _ c3 _ rfl H5.out.2.1 A4 _ c4 _ rfl H5.out.2.2 (by simp only [lowF_length]; decide) (by simp only [lowF_length]; decide) hz ?_
  intro A6 c6 w6 ho6 hg6 _
  have hS6 := H5.out.1.app (Nat.le_refl _) H5.out.2.1 (Nat.le_refl _) (by decide) hg6
  have H6 := Lib.hid (And.intro hS6.1 ho6)
  clear hS6 ho6 hg6 H5
  go_wp2_with (fail)
  go_ret
  exact ⟨A6, c6, rfl, H6.out.2, H6.out.1⟩
end Go.Proofs.Ytejablcdpakgoaa
