/- What Beside answers, in the program and in the reference, and 'same'. -/
import Derived.Test.YtedbbbbjajafgaaPlaneF
import Derived.Test.YtedbbbbjajafgaaBase
namespace Go.Proofs.Ytedbbbbjajafgaa
open Go.RowKit Go.Proofs Fl
set_option linter.unusedVariables false
set_option linter.unusedSimpArgs false

theorem inf_u : (Try.prog.info? 25).map (fun i => (i.zero, i.size, i.bytes)) = some (some (.int .u64 0), 1, 8) := by kernel_rfl

/-- the place beside z in the direction q -/
def nb (z : Int × Int) (q : Nat) : Int × Int := (z.1 + (Pl.turnF (1, 0) q).1, z.2 + (Pl.turnF (1, 0) q).2)
/-- the numbers beside z in the first k directions -/
def besK (z : Int × Int) : Nat → List Int
  | 0 => []
  | k + 1 => besK z k ++ (if (Pl.backF (nb z k)).2 = 0 then [((Pl.backF (nb z k)).1 : Int)] else [])
theorem besK_len (z : Int × Int) (k : Nat) : (besK z k).length ≤ k := by
  induction k with
  | zero => simp [besK]
  | succ k ih =>
    unfold besK
    rw [List.length_append]
    split <;> simp <;> omega
def besF (n : Nat) : List Int × Int := if (Pl.ofF n).2 = 0 then (besK (Pl.ofF n).1 4, 0) else ([], (Pl.ofF n).2)

theorem turn1_le (q : Nat) : -1 ≤ (Pl.turnF (1, 0) q).1 ∧ (Pl.turnF (1, 0) q).1 ≤ 1 ∧ -1 ≤ (Pl.turnF (1, 0) q).2 ∧ (Pl.turnF (1, 0) q).2 ≤ 1 := by
  unfold Pl.turnF
  split
  · simp
  · split
    · simp
    · split <;> simp
theorem ofF_inr (n : Nat) : Pl.inr (Pl.ofF n).1 := by
  unfold Pl.ofF
  split
  · exact Pl.V_inr n 40 (by omega)
  · decide

set_option maxRecDepth 100000 in
set_option maxHeartbeats 1000000 in
theorem beside_any (n : Nat) (w : World) :
    Calls Try.prog 18 #[.int .u64 n] w fun e w' => ∃ A c, e = .returned (.tuple #[.slice A (besF n).1.length c, .int .i64 (besF n).2]) ∧ OwnN w' w.heap.size 25 .u64 A (besF n).1.length c (besF n).1 ∧ Below w.heap.size w w' := by
  have hin := ofF_inr n
  have C0 := Lib.hid (of_any n w)
  have hbf : besF n = if (Pl.ofF n).2 = 0 then (besK (Pl.ofF n).1 4, 0) else ([], (Pl.ofF n).2) := rfl
  have HB := Lib.hid hbf
  clear hbf
  go_enter Try.func18, Try.ntmps18
  go_wp2_with (fail)
  refine C0.out.mono ?_
  rintro e w' ⟨rfl, rfl⟩
  clear C0
  generalize (Pl.ofF n).2 = er at *
  generalize (Pl.ofF n).1 = z at *
  by_cases h0 : er = 0
  · subst h0
    have HB2 := HB.out
    rw [if_pos rfl] at HB2
    have HB3 := Lib.hid HB2
    clear HB HB2
    go_wp2_with (fail)
    go_loopw [6, 18] (fun l q wr => ∃ k : Nat, k ≤ 4 ∧ q = .int .i64 k ∧ ∃ A c, l = .slice A (besK z k).length c ∧ OwnN wr w.heap.size 25 .u64 A (besK z k).length c (besK z k) ∧ Below w.heap.size w wr) (fun _ q _ => 4 - (intOf q).toNat)
    case atStart => exact ⟨0, by omega, rfl, none, 0, rfl, OwnN.nil _ _ _ _, Below.refl _ _⟩
    case round =>
      obtain ⟨k, hk, rfl, A, c, rfl, hown, hbel⟩ := hrel
      have hkl := besK_len z k
      have hnx : besK z (k + 1) = besK z k ++ (if (Pl.backF (nb z k)).2 = 0 then [((Pl.backF (nb z k)).1 : Int)] else []) := rfl
      have HN := Lib.hid hnx
      clear hnx
      by_cases hk4 : k = 4
      · subst hk4
        go_wp2_with (fail)
        go_ret2
        rw [HB3.out]
        exact ⟨A, c, rfl, hown, hbel⟩
      · have hk' : (k : Int) < 4 := by omega
        clear hk4
        have ht1 := turn1_le k
        unfold Pl.inr at hin
        have sz : Sw z.1 ∧ Sw z.2 := ⟨Sw.of (by omega) (by omega), Sw.of (by omega) (by omega)⟩
        have st : Sw (Pl.turnF (1, 0) k).1 ∧ Sw (Pl.turnF (1, 0) k).2 := ⟨Sw.of (by omega) (by omega), Sw.of (by omega) (by omega)⟩
        have sn : Sw (nb z k).1 ∧ Sw (nb z k).2 := ⟨Sw.of (by unfold nb; simp only []; omega) (by unfold nb; simp only []; omega), Sw.of (by unfold nb; simp only []; omega) (by unfold nb; simp only []; omega)⟩
        have c1 := fun w => turn_any 1 0 (k : Int) w (Sw.of (by omega) (by omega)) (Sw.of (by omega) (by omega)) (by omega) (by omega)
        rw [fl_one, fl_nought] at c1
        have c2 := fun w => back_any (nb z k) w sn
        have a1 := fun w => run_cadd (P := Try.prog) w 29 sz.1 sz.2 st.1 st.2
        have C := Lib.hid (And.intro c1 c2)
        have en : nb z k = (z.1 + (Pl.turnF (1, 0) k).1, z.2 + (Pl.turnF (1, 0) k).2) := rfl
        rw [en] at C HN
        clear c1 c2 en sn st sz ht1 hin
        generalize (Pl.turnF (1, 0) (k : Int)).1 = ta at *
        generalize (Pl.turnF (1, 0) (k : Int)).2 = tb at *
        go_wp2_with (fail)
        refine (C.out.1 _).mono ?_
        rintro e w' ⟨rfl, rfl⟩
        go_wp2_with (fail)
        refine (C.out.2 _).mono ?_
        rintro e w' ⟨rfl, rfl⟩
        generalize Pl.backF (z.1 + ta, z.2 + tb) = r at *
        obtain ⟨m, er⟩ := r
        by_cases h1 : er = 0
        · subst h1
          have h2 := HN.out
          simp only [if_true] at h2
          have HN2 := Lib.hid h2
          clear HN h2
          go_wp2_with (at_builtin; refine Stop.mk ?_)
          refine Stop.out ?_
          refine wpList_appN _ rfl (.tmp 31) (.tmp 33) _ rfl w.heap.size 25 .u64 8 Try.underlying44 inf_u A (besK z k).length c (besK z k) rfl (hown.alloc _) (some ⟨wr.heap.size, 0, none⟩) 1 1 [(m : Int)] rfl
            (OwnN.lit (base := 0) (e := 25) (k := .u64) wr [(m : Int)] 1 (Nat.zero_le _) (by decide) rfl).rd ?_ ?_ ?_ ?_
          · unfold maxLen; omega
          · omega
          · have := hbel.size; simp; omega
          intro A' c' w1 hown' hg hA
          have hb1 : Below w.heap.size w w1 := (hbel.alloc hbel.size _).grown hg (by have := hbel.size; simp; omega) (fun g hg => (hown.lt g hg).1)
          have hl2 : (besK z (k + 1)).length = (besK z k).length + 1 := by rw [HN2.out]; simp
          rw [← HN2.out] at hown'
          rw [← hl2] at hown'
          have H5 := Lib.hid (And.intro hown' hl2)
          clear hown' hl2 hg hA hown hbel
          go_wp2_with (fail)
          go_roundw
          case rel =>
            refine ⟨k + 1, by omega, by go_num, A', c', ?_, H5.out.1, hb1⟩
            rw [H5.out.2]
          case measure => simp [intOf]; omega
        · have h2 := HN.out
          simp only [if_neg h1, List.append_nil] at h2
          have HN2 := Lib.hid h2
          have t1 : (er == 0) = false := beq_eq_false_iff_ne.2 h1
          clear HN h2 h1
          have H5 := Lib.hid (And.intro hown hbel)
          clear hown hbel
          go_wp2_with (fail)
          go_roundw
          case rel =>
            refine ⟨k + 1, by omega, by go_num, A, c, ?_, ?_, H5.out.2⟩
            · rw [HN2.out]
            · rw [HN2.out]; exact H5.out.1
          case measure => simp [intOf]; omega
  · have HB2 := HB.out
    rw [if_neg h0] at HB2
    have HB3 := Lib.hid HB2
    have t1 : (er != 0) = true := bne_iff_ne.2 h0
    clear HB HB2 h0
    go_wp2_with (fail)
    go_ret2
    rw [HB3.out]
    exact ⟨none, 0, rfl, OwnN.nil _ _ _ _, Below.refl _ _⟩

set_option maxRecDepth 100000 in
set_option maxHeartbeats 1000000 in
theorem rbeside_any (n : Nat) (w : World) :
    Calls Try.prog 19 #[.int .u64 n] w fun e w' => ∃ A c, e = .returned (.tuple #[.slice A (besF n).1.length c, .int .i64 (besF n).2]) ∧ OwnN w' w.heap.size 25 .u64 A (besF n).1.length c (besF n).1 ∧ Below w.heap.size w w' := by
  have hin := ofF_inr n
  have C0 := Lib.hid (rof_any n w)
  have hbf : besF n = if (Pl.ofF n).2 = 0 then (besK (Pl.ofF n).1 4, 0) else ([], (Pl.ofF n).2) := rfl
  have HB := Lib.hid hbf
  clear hbf
  go_enter Try.func19, Try.ntmps19
  go_wp2_with (fail)
  refine C0.out.mono ?_
  rintro e w1 ⟨rfl, hb1⟩
  clear C0
  generalize (Pl.ofF n).2 = er at *
  generalize (Pl.ofF n).1 = z at *
  by_cases h0 : er = 0
  · subst h0
    have HB2 := HB.out
    rw [if_pos rfl] at HB2
    have HB3 := Lib.hid HB2
    clear HB HB2
    have hz1 := hb1.size
    go_wp2_with (fail)
    go_loopw [6, 7] (fun l q wr => ∃ k : Nat, k ≤ 4 ∧ q = .int .i64 k ∧ wr.cell? ⟨w1.heap.size, 0, none⟩ = some (.int .i64 z.1) ∧ wr.cell? ⟨w1.heap.size, 1, none⟩ = some (.int .i64 z.2) ∧ w1.heap.size < wr.heap.size ∧ ∃ A c, l = .slice A (besK z k).length c ∧ OwnN wr (w1.heap.size + 1) 25 .u64 A (besK z k).length c (besK z k) ∧ Below w.heap.size w wr) (fun _ q _ => 4 - (intOf q).toNat)
    case atStart => exact ⟨0, by omega, rfl, by simp, by simp, by simp, none, 0, rfl, OwnN.nil _ _ _ _, hb1.alloc hb1.size _⟩
    case round =>
      obtain ⟨k, hk, rfl, hc0, hc1, hlt, A, c, rfl, hown, hbel⟩ := hrel
      have hkl := besK_len z k
      have hnx : besK z (k + 1) = besK z k ++ (if (Pl.backF (nb z k)).2 = 0 then [((Pl.backF (nb z k)).1 : Int)] else []) := rfl
      have HN := Lib.hid hnx
      clear hnx
      by_cases hk4 : k = 4
      · subst hk4
        have H5 := Lib.hid (And.intro (hown.mono (Nat.le_succ_of_le hz1)) hbel)
        clear hown hbel
        go_wp2_with (fail)
        go_ret2
        rw [HB3.out]
        exact ⟨A, c, rfl, H5.out.1, H5.out.2⟩
      · have hk' : (k : Int) < 4 := by omega
        clear hk4
        have ht1 := turn1_le k
        unfold Pl.inr at hin
        have c1 := fun w => rturn_any (1, 0) (k : Int) w ⟨Sw.of (by omega) (by omega), Sw.of (by omega) (by omega)⟩
        have c2 := fun w => rback_any (nb z k) w
        have C := Lib.hid (And.intro c1 c2)
        have en : nb z k = (z.1 + (Pl.turnF (1, 0) k).1, z.2 + (Pl.turnF (1, 0) k).2) := rfl
        rw [en] at C HN
        have H5 := Lib.hid (And.intro hown hbel)
        clear c1 c2 en hown hbel
        generalize (Pl.turnF (1, 0) (k : Int)).1 = ta at *
        generalize (Pl.turnF (1, 0) (k : Int)).2 = tb at *
        go_wp2_with (fail)
        refine (C.out.1 _).mono ?_
        rintro e w2 ⟨rfl, hb2⟩
        have hd0 : w2.cell? ⟨w1.heap.size, 0, none⟩ = some (.int .i64 z.1) := (hb2.cell hlt).trans hc0
        have hd1 : w2.cell? ⟨w1.heap.size, 1, none⟩ = some (.int .i64 z.2) := (hb2.cell hlt).trans hc1
        have hlt2 : w1.heap.size < w2.heap.size := Nat.lt_of_lt_of_le hlt hb2.size
        clear hc0 hc1
        go_wp2_with (fail)
        refine (C.out.2 _).mono ?_
        rintro e w3 ⟨rfl, hb3⟩
        have hs3 := hb3.size
        simp only [World.size_alloc] at hs3
        have he0 : w3.cell? ⟨w1.heap.size, 0, none⟩ = some (.int .i64 z.1) := by rw [hb3.cell (by simp; omega), World.cell?_alloc_lt _ _ _ hlt2]; exact hd0
        have he1 : w3.cell? ⟨w1.heap.size, 1, none⟩ = some (.int .i64 z.2) := by rw [hb3.cell (by simp; omega), World.cell?_alloc_lt _ _ _ hlt2]; exact hd1
        have hlt3 : w1.heap.size < w3.heap.size := by omega
        have hstep : Below wr.heap.size wr w3 := bThen (hb2.alloc hb2.size _) hb3
        have hown := H5.out.1.below hstep
        have hbel := bThen H5.out.2 hstep
        clear hd0 hd1 H5 hb2 hb3 hstep hlt hlt2 hs3
        generalize Pl.backF (z.1 + ta, z.2 + tb) = r at *
        obtain ⟨m, er⟩ := r
        by_cases h1 : er = 0
        · subst h1
          have h2 := HN.out
          simp only [if_true] at h2
          have HN2 := Lib.hid h2
          clear HN h2
          go_wp2_with (at_builtin; refine Stop.mk ?_)
          refine Stop.out ?_
          refine wpList_appN _ rfl (.tmp 43) (.tmp 45) _ rfl (w1.heap.size + 1) 25 .u64 8 Try.underlying44 inf_u A (besK z k).length c (besK z k) rfl (hown.alloc _) (some ⟨w3.heap.size, 0, none⟩) 1 1 [(m : Int)] rfl
            (OwnN.lit (base := 0) (e := 25) (k := .u64) w3 [(m : Int)] 1 (Nat.zero_le _) (by decide) rfl).rd ?_ ?_ ?_ ?_
          · unfold maxLen; omega
          · omega
          · simp; omega
          intro A' c' w4 hown' hg hA
          have hgb : ∀ g, blk A = some g → w1.heap.size + 1 ≤ g := fun g hg => (hown.lt g hg).1
          have hb1 : Below w.heap.size w w4 := (hbel.alloc hbel.size _).grown hg (by have := hbel.size; simp; omega) (fun g hg => by have := hgb g hg; omega)
          have hne : some w1.heap.size ≠ blk A := fun e => by have := hgb _ e.symm; omega
          have hf0 : w4.cell? ⟨w1.heap.size, 0, none⟩ = some (.int .i64 z.1) := hg.cell (by rw [World.cell?_alloc_lt _ _ _ hlt3]; exact he0) hne
          have hf1 : w4.cell? ⟨w1.heap.size, 1, none⟩ = some (.int .i64 z.2) := hg.cell (by rw [World.cell?_alloc_lt _ _ _ hlt3]; exact he1) hne
          have hlt4 : w1.heap.size < w4.heap.size := by have := hg.size; simp at this; omega
          have hl2 : (besK z (k + 1)).length = (besK z k).length + 1 := by rw [HN2.out]; simp
          rw [← HN2.out] at hown'
          rw [← hl2] at hown'
          have H6 := Lib.hid (And.intro hown' (And.intro hl2 hb1))
          clear hown' hl2 hg hA hown hbel hb1 he0 he1 hgb hne
          go_wp2_with (fail)
          go_roundw
          case rel =>
            refine ⟨k + 1, by omega, by go_num, hf0, hf1, hlt4, A', c', ?_, H6.out.1, H6.out.2.2⟩
            rw [H6.out.2.1]
          case measure => simp [intOf]; omega
        · have h2 := HN.out
          simp only [if_neg h1, List.append_nil] at h2
          have HN2 := Lib.hid h2
          have t1 : (er == 0) = false := beq_eq_false_iff_ne.2 h1
          have H6 := Lib.hid (And.intro hown hbel)
          clear HN h2 h1 hown hbel
          go_wp2_with (fail)
          go_roundw
          case rel =>
            refine ⟨k + 1, by omega, by go_num, he0, he1, hlt3, A, c, ?_, ?_, H6.out.2⟩
            · rw [HN2.out]
            · rw [HN2.out]; exact H6.out.1
          case measure => simp [intOf]; omega
  · have HB2 := HB.out
    rw [if_neg h0] at HB2
    have HB3 := Lib.hid HB2
    have t1 : (er != 0) = true := bne_iff_ne.2 h0
    clear HB HB2 h0
    go_wp2_with (fail)
    go_ret2
    rw [HB3.out]
    exact ⟨none, 0, rfl, OwnN.nil _ _ _ _, hb1.alloc hb1.size _⟩
end Go.Proofs.Ytedbbbbjajafgaa
