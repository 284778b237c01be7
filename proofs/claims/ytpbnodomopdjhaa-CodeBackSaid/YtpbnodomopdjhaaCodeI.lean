/- What code.Read answers. -/
import Derived.Test.YtpbnodomopdjhaaCodeH
import Derived.Test.YtpbnodomopdjhaaScope
namespace Go.Proofs.Ytpbnodomopdjhaa
open Go.RowKit Go.Proofs En Cd
set_option linter.unusedVariables false
set_option linter.unusedSimpArgs false

/-- the whole frame of code.Read, where the steps so far and the place are known -/
def RdFr (w : World) (A : Option Addr) (n c : Nat) (B : Option Addr) (m c' at_ : Nat) (a : Act) : Prop :=
  ∃ (u1 u2 u3 u6 u7 u9 u10 u11 u12 u13 u14 u15 u16 u17 u18 u19 u20 u21 u22 u23 u24 u25 u26 u27 u28 u29 u30 u31 u32 u33 u34 u35 u36 u37 u38 u39 u40 u41 u42 u43 u44 u45 u46 u47 u48 u49 u50 u51 u52 u53 u54 u55 u56 u57 u58 u59 u60 u61 u62 u63 u64 u65 u66 u67 u68 u69 u70 u71 u72 u73 u74 u75 u76 u77 u78 u79 u80 u81 u82 u83 : Value), a = { tmps := #[.slice A n c, u1, u2, u3, .slice B m c', .pointer (some ⟨w.heap.size, 0, none⟩), u6, u7, .int .i64 (at_ : Nat), u9, u10, u11, u12, u13, u14, u15, u16, u17, u18, u19, u20, u21, u22, u23, u24, u25, u26, u27, u28, u29, u30, u31, u32, u33, u34, u35, u36, u37, u38, u39, u40, u41, u42, u43, u44, u45, u46, u47, u48, u49, u50, u51, u52, u53, u54, u55, u56, u57, u58, u59, u60, u61, u62, u63, u64, u65, u66, u67, u68, u69, u70, u71, u72, u73, u74, u75, u76, u77, u78, u79, u80, u81, u82, u83], defers := [] }
/-- what holds at the two labels -/
def RdJ (w : World) (A : Option Addr) (n c : Nat) (b : List Int) (l : Nat) (a : Act) (w' : World) : Prop :=
  (l = 0 ∧ ∃ (B : Option Addr) (m c' at_ k : Nat) (hs : List Hd) (v0 v1 : Value), RdFr w A n c B m c' at_ a ∧ at_ ≤ n ∧ m ≤ 200 ∧ OwnS w' (w.heap.size + 1) B m c' hs ∧ n - at_ ≤ k ∧ readF k (sts hs) (b.drop at_) = readAll b ∧ Below w.heap.size w w' ∧
    w'.heap[w.heap.size]? = some (.cells #[v0, v1] 55 (0, 0))) ∨
  (l = 1 ∧ ∃ (B : Option Addr) (m c' at_ k : Nat) (hs : List Hd) (x : Hd), RdFr w A n c B m c' at_ a ∧ at_ ≤ n ∧ m < 200 ∧ OwnS w' (w.heap.size + 1) B m c' hs ∧ n - at_ ≤ k ∧ readF k (sts hs ++ [x.st]) (b.drop at_) = readAll b ∧ Below w.heap.size w w' ∧
    w'.heap[w.heap.size]? = some (.cells #[.int .u8 x.op, .slice x.A x.n x.c] 55 (0, 0)) ∧ (0 ≤ x.op ∧ x.op ≤ 255) ∧ OwnB w' (w.heap.size + 1) x.A x.n x.c x.p ∧ IsB x.p ∧ x.n ≤ 140737488355328)


theorem OwnS.set_low {w : World} {base : Nat} {B : Option Addr} {m c : Nat} {hs : List Hd} (h : OwnS w base B m c hs) {p : Addr} (hp : p.block < base) (u : Value) : OwnS (w.setCell p u) base B m c hs :=
  ⟨Own.setOther h.row (fun e => by have := (Own.lt h.row _ e).1; omega) u, fun x hx => ⟨(h.ok x hx).1, Own.setOther (h.ok x hx).2.1 (fun e => by have := (OwnN.lt (h.ok x hx).2.1 _ e).1; omega) u, (h.ok x hx).2.2⟩⟩

theorem drop_getD (b : List Int) (p i : Nat) : (b.drop p).getD i 0 = b.getD (p + i) 0 := by
  rw [List.getD_eq_getElem?_getD, List.getD_eq_getElem?_getD, List.getElem?_drop]
theorem part_at (b : List Int) (p q : Nat) (h : p ≤ b.length) : partF b p q = if b.length < p + q then ([], 4) else ((b.drop p).take q, 0) := by
  unfold partF
  rw [if_neg (by omega)]
  by_cases h1 : b.length < p + q
  · rw [if_pos h1, if_pos (by omega)]
  · rw [if_neg h1, if_neg (by omega)]; simp
theorem push_at (b : List Int) (p fr q : Nat) : pushF (b.drop p) fr q = if b.length - p < fr + q then ((0, []), 0, 4) else ((1, (b.drop (p + fr)).take q), fr + q, 0) := by
  unfold pushF
  rw [List.length_drop, List.drop_drop]
theorem get2_at (b : List Int) (p : Nat) (h : p < b.length) : getF b (p + 1 : Nat) 2 = if b.length < p + 3 then (0, 4) else (longF (b.drop p), 0) := by
  unfold getF
  rw [if_pos (by decide)]
  have e := part_at b (p + 1) 2 (by omega)
  by_cases h1 : b.length < p + 3
  · have e' : partF b ((p + 1 : Nat) : Int) 2 = ([], 4) := by rw [show ((2 : Int)) = ((2 : Nat) : Int) from rfl, e, if_pos (by omega)]
    rw [e', if_pos h1]; rfl
  · have e' : partF b ((p + 1 : Nat) : Int) 2 = ((b.drop (p + 1)).take 2, 0) := by rw [show ((2 : Int)) = ((2 : Nat) : Int) from rfl, e, if_neg (by omega)]
    have e2 : (b.drop (p + 1)).take 2 = [b.getD (p + 1) 0, b.getD (p + 2) 0] := by
      rw [take_drop_snoc b (p + 1) 1 (by omega), take_drop_snoc b (p + 1) 0 (by omega)]
      simp
    rw [e', if_neg h1, if_pos rfl]
    show (valF ((b.drop (p + 1)).take 2), (0 : Int)) = _
    rw [e2]
    unfold longF
    rw [drop_getD, drop_getD]
    simp [valF]
theorem longF_bd {b : List Int} (h : IsB b) : 0 ≤ longF b ∧ longF b ≤ 65535 := by
  have h1 := h.getD 1
  have h2 := h.getD 2
  unfold longF
  omega

set_option maxRecDepth 10000 in
set_option maxHeartbeats 1000000 in
theorem read_any (A : Option Addr) (n c : Nat) (b : List Int) (w : World) (hb : Arg w A n c b) :
    Calls Try.prog 32 #[.slice A n c] w fun e w' => ∃ B c' hs, e = .returned (.tuple #[.slice B hs.length c', .int .i64 (readAll b).2]) ∧ sts hs = (readAll b).1 ∧ OwnS w' w.heap.size B hs.length c' hs ∧ Below w.heap.size w w' := by
  have hn := hb.len
  have LB := Lib.hid hb
  go_enter Try.func32, Try.ntmps32
  go_wp2_with (fail)
  refine wp_scope_labels0 (RdJ w A n c b) (fun l a' _ => 2 * (n - (intOf (a'.tmps.getD 8 undef)).toNat) + l) ?_ ?_
  · rintro l a' w' (⟨rfl, B, m, c', at_, k, hs, v0, v1, hfr, hat, hm, ho, hk, hR, hbel, hrow⟩ | ⟨rfl, B, m, c', at_, k, hs, x, hfr, hat, hm, ho, hk, hR, hbel, hrow, hx1, hx2, hx3, hx4⟩)
    · refine ⟨_, rfl, ?_⟩
      rcases hfr with ⟨u1, u2, u3, u6, u7, u9, u10, u11, u12, u13, u14, u15, u16, u17, u18, u19, u20, u21, u22, u23, u24, u25, u26, u27, u28, u29, u30, u31, u32, u33, u34, u35, u36, u37, u38, u39, u40, u41, u42, u43, u44, u45, u46, u47, u48, u49, u50, u51, u52, u53, u54, u55, u56, u57, u58, u59, u60, u61, u62, u63, u64, u65, u66, u67, u68, u69, u70, u71, u72, u73, u74, u75, u76, u77, u78, u79, u80, u81, u82, u83, rfl⟩
      obtain ⟨k0, k1, f0, f1⟩ := box_two hrow
      have hz := hbel.size
      have hlh := ho.len
      by_cases hend : at_ = n
      · have hd : b.drop at_ = [] := List.drop_eq_nil_of_le (by rw [LB.out.rd.len]; omega)
        rw [hd, readF_nil] at hR
        have R := Lib.hid (And.intro hR (And.intro hlh (And.intro ho hbel)))
        have d0 : ((at_ : Int) == n) = true := by rw [beq_iff_eq]; omega
        clear hR hlh ho hbel hd hrow hend
        go_wp2_with (fail)
        unfold jumps
        go_ret2
        have hlh := R.out.2.1
        subst hlh
        rw [← R.out.1]
        exact ⟨B, c', hs, rfl, rfl, R.out.2.2.1.mono (Nat.le_succ _), R.out.2.2.2⟩
      · have hlt0 : at_ < n := by omega
        have d0 : ((at_ : Int) == n) = false := by rw [beq_eq_false_iff_ne]; omega
        have d0' : (at_ == n) = false := by rw [beq_eq_false_iff_ne]; omega
        obtain ⟨j, hj1, hj2, hj⟩ := readF_cons (acc := sts hs) (b := b.drop at_) (k := k) (by rw [List.length_drop, LB.out.rd.len]; exact hk) (by intro e; have := congrArg List.length e; rw [List.length_drop, LB.out.rd.len] at this; simp at this; omega)
        rw [List.length_drop, LB.out.rd.len] at hj1
        rw [hj, sts_len, hlh] at hR
        clear hj hj2 hlh
        by_cases h200 : m = 200
        · rw [if_pos h200] at hR
          have R := Lib.hid (And.intro hR hbel)
          have d1 : ((m : Int) == 200) = true := by rw [beq_iff_eq]; omega
          clear hR hbel ho hend hrow h200
          go_wp2_with (fail)
          unfold jumps
          go_ret2
          rw [← R.out.1]
          exact ⟨none, 0, [], rfl, rfl, OwnS.nil _ _, R.out.2⟩
        · rw [if_neg h200] at hR
          have d1 : ((m : Int) == 200) = false := by rw [beq_eq_false_iff_ne]; omega
          have d2 : (m == 200) = false := by rw [beq_eq_false_iff_ne]; omega
          have hm2 : m < 200 := by omega
          obtain ⟨ad, rfl, hba, hca⟩ := (hb.rd.below hbel).at_ hlt0
          obtain ⟨v, hv⟩ : ∃ v, v = b.getD at_ 0 := ⟨_, rfl⟩
          have hvb := hb.isB.getD at_
          rw [← hv] at hca hvb
          have hset := two_set hrow
          have hrow1 := heap_setCell_same _ _ 0 _ _ (.int .u8 1) hrow
          have hrow2 := heap_setCell_same _ _ 1 _ _ (.slice none 0 0) hrow1
          have hb2 : Below w.heap.size w ((w'.setCell ⟨w.heap.size, 0, none⟩ (.int .u8 1)).setCell ⟨w.heap.size, 1, none⟩ (.slice none 0 0)) := (hbel.setCell (Nat.le_refl _) _).setCell (Nat.le_refl _) _
          have hne : ad.block < w.heap.size := hb.rd.at_ hlt0 |>.elim fun a h => by have e := Option.some.inj h.1; rw [e]; exact h.2.1
          have hca2 : ((w'.setCell ⟨w.heap.size, 0, none⟩ (.int .u8 1)).setCell ⟨w.heap.size, 1, none⟩ (.slice none 0 0)).cell? (ad.add at_) = some (.int .u8 v) := by
            rw [hb2.cell (by rw [block_add]; exact hne), ← hbel.cell (by rw [block_add]; exact hne)]; exact hca
          have HO := Lib.hid (And.intro ho (And.intro hrow2 hb2))
          clear hend h200 hset hrow1 hrow2 hb2
          by_cases hv1 : v ≤ 127
          · obtain ⟨q, rfl⟩ := Int.eq_ofNat_of_zero_le hvb.1
            have hst : stepF (b.drop at_) = pushF (b.drop at_) 1 q := by unfold stepF; rw [drop_getD, Nat.add_zero, ← hv, if_pos (by omega), Int.toNat_natCast]
            have SF := Lib.hid hst
            have d3 : decide ((q : Int) ≤ 127) = true := decide_eq_true hv1
            clear hst hv
            by_cases hsh : n - at_ < 1 + q
            · have hst : stepF (b.drop at_) = ((0, []), 0, 4) := by rw [SF.out, push_at, if_pos (by rw [LB.out.rd.len]; exact hsh)]
              have hP : partF b ((at_ : Int) + 1) q = ([], 4) := by
                have h := part_at b (at_ + 1) q (by rw [LB.out.rd.len]; omega)
                rw [if_pos (by rw [LB.out.rd.len]; omega)] at h
                simpa using h
              rw [hst, if_neg (by decide)] at hR
              have R := Lib.hid hR
              have P := Lib.hid hP
              clear hR hst hP
              go_wp2_with (fail)
              refine (part_is (hb.below (HO.out.2.2)) (by omega) (by omega) P.out).mono ?_
              rintro e w3 ⟨A', c2, rfl, ho3, hb3⟩
              have hrow3 : w3.heap[w.heap.size]? = some _ := (hb3.block w.heap.size (by have := (Array.getElem?_eq_some_iff.1 (HO.out.2.1)).1; exact this)).trans (HO.out.2.1)
              obtain ⟨k0', k1', f0', f1'⟩ := box_two hrow3
              have hbel3 := bThen (HO.out.2.2) hb3
              clear ho3 hb3 hrow3
              go_wp2_with (fail)
              unfold jumps
              go_ret2
              rw [← R.out]
              exact ⟨none, 0, [], rfl, rfl, OwnS.nil _ _, hbel3.setCell (Nat.le_refl _) _⟩
            · obtain ⟨p, hp⟩ : ∃ p, p = (b.drop (at_ + 1)).take q := ⟨_, rfl⟩
              have hst : stepF (b.drop at_) = ((1, p), 1 + q, 0) := by rw [SF.out, push_at, if_neg (by rw [LB.out.rd.len]; exact hsh), hp]
              have hpl : p.length = q := by rw [hp, List.length_take, List.length_drop, LB.out.rd.len]; omega
              have hpB : IsB p := by rw [hp]; exact (LB.out.isB.drop _).take _
              have hP : partF b ((at_ : Int) + 1) q = (p, 0) := by
                have h := part_at b (at_ + 1) q (by rw [LB.out.rd.len]; omega)
                rw [if_neg (by rw [LB.out.rd.len]; omega), ← hp] at h
                simpa using h
              rw [hst, if_pos rfl, List.drop_drop] at hR
              have P := Lib.hid (And.intro hP (And.intro hpl hpB))
              have R := Lib.hid hR
              clear hR hst hP hp hpl hpB
              go_wp2_with (fail)
              refine (part_is (hb.below (HO.out.2.2)) (by omega) (by omega) P.out.1).mono ?_
              rintro e w3 ⟨A', c2, rfl, ho3, hb3⟩
              have hrow3 : w3.heap[w.heap.size]? = some _ := (hb3.block w.heap.size (by have := (Array.getElem?_eq_some_iff.1 (HO.out.2.1)).1; exact this)).trans (HO.out.2.1)
              obtain ⟨k0', k1', f0', f1'⟩ := box_two hrow3
              have hbel3 := bThen (HO.out.2.2) hb3
              have hrow4 := heap_setCell_same _ _ 1 _ _ (.slice A' q c2) hrow3
              have hoS := ((HO.out.1.set_low (p := ⟨w.heap.size, 0, none⟩) (Nat.lt_succ_self _) (.int .u8 1) |>.set_low (p := ⟨w.heap.size, 1, none⟩) (Nat.lt_succ_self _) (.slice none 0 0)).below hb3).set_low (p := ⟨w.heap.size, 1, none⟩) (Nat.lt_succ_self _) (.slice A' q c2)
              have hoB : OwnB (w3.setCell ⟨w.heap.size, 1, none⟩ (.slice A' q c2)) (w.heap.size + 1) A' q c2 p := by
                have hlow := (Array.getElem?_eq_some_iff.1 (HO.out.2.1)).1
                have h := OwnN.mono ho3 (show w.heap.size + 1 ≤ _ from hlow)
                rw [P.out.2.1] at h
                exact Own.setOther h (fun e => by have := (OwnN.lt h _ e).1; simp at this; omega) _
              rw [P.out.2.1]
              have hlt := Own.lt hoS.row
              have H4 := Lib.hid (And.intro hoS (And.intro hoB (And.intro hrow4 hbel3)))
              clear ho3 hb3 hrow3 hrow4 hoS hoB
              have hz3 := hbel3.size
              clear hbel3
              go_wp2_with (fail)
              go_step3
              go_wp2_with (at_builtin; refine Stop.mk ?_)
              refine Stop.out ?_
              refine wpList_appS (w3.setCell ⟨w.heap.size, 1, none⟩ (.slice A' q c2)) rfl (.tmp 80) (.tmp 82) rfl (w.heap.size + 1) B m c' hs ⟨1, A', q, c2, p⟩ rfl H4.out.1 _ rfl (by simp) ⟨(by decide : (0 : Int) ≤ 1), (by decide : (1 : Int) ≤ 255)⟩ H4.out.2.1 P.out.2.2 (show q ≤ _ by omega) (by omega) (by have := (World.block_lt_of_cell? _ _ k0'); simp at this ⊢; omega) ?_
              intro B2 c4 w4 ho4 hg
              have hbel4 : Below w.heap.size w w4 := (belA (H4.out.2.2.2.setCell (Nat.le_refl _) _) _ (Nat.le_refl _)).grown hg (by simp; omega) (fun g hg => by have := (hlt g hg).1; omega)
              have hrow5 : w4.heap[w.heap.size]? = some (.cells #[.int .u8 1, .slice A' q c2] 55 (0, 0)) := by
                have hb0 := World.block_lt_of_cell? _ _ k0'
                refine (hg.block w.heap.size (by simp; simp at hb0; omega) (fun e => by have := (hlt _ e.symm).1; omega)).trans ?_
                rw [Below.heap_alloc _ _ _ (by simp; simp at hb0; exact hb0)]
                exact H4.out.2.2.1
              have H5 := Lib.hid (And.intro ho4 (And.intro hbel4 hrow5))
              clear ho4 hbel4 hrow5 hg hlt H4
              go_wp2_with (fail)
              go_step3
              have hat2 : ((at_ : Int) + 1 + q) = ((at_ + (1 + q) : Nat) : Int) := by omega
              rw [hat2]
              refine ⟨.inl ⟨rfl, B2, m + 1, c4, at_ + (1 + q), j, hs ++ [⟨1, A', q, c2, p⟩], _, _, ?_, by omega, by omega, H5.out.1, by omega, ?_, H5.out.2.1, H5.out.2.2⟩, ?_⟩
              · exact ⟨_, _, _, _, _, _, _, _, _, _, _, _, _, _, _, _, _, _, _, _, _, _, _, _, _, _, _, _, _, _, _, _, _, _, _, _, _, _, _, _, _, _, _, _, _, _, _, _, _, _, _, _, _, _, _, _, _, _, _, _, _, _, _, _, _, _, _, _, _, _, _, _, _, _, _, _, _, _, _, _, rfl⟩
              · rw [sts_append]; exact R.out
              · simp [intOf]; omega
          · have d3 : decide (v ≤ 127) = false := decide_eq_false hv1
            by_cases hv2 : v = 128
            · subst hv2
              have d4 : ((128 : Int) == 128) = true := rfl
              have hG0 := get2_at b at_ (by rw [LB.out.rd.len]; exact hlt0)
              rw [LB.out.rd.len, show ((at_ + 1 : Nat) : Int) = (at_ : Int) + 1 from by omega] at hG0
              by_cases hs3 : n < at_ + 3
              · have hst : stepF (b.drop at_) = ((0, []), 0, 4) := by unfold stepF; rw [drop_getD, Nat.add_zero, ← hv, if_neg (by decide), if_pos rfl, if_pos (by rw [List.length_drop, LB.out.rd.len]; omega)]
                rw [hst, if_neg (by decide)] at hR
                rw [if_pos hs3] at hG0
                have R := Lib.hid hR
                have G := Lib.hid hG0
                clear hR hst hv hG0
                go_wp2_with (fail)
                refine (get_is (hb.below HO.out.2.2) (by omega) (by omega) G.out).mono ?_
                rintro e w3 ⟨rfl, hb3⟩
                have hbel3 := bThen HO.out.2.2 hb3
                clear hb3
                go_wp2_with (fail)
                unfold jumps
                go_ret2
                rw [← R.out]
                exact ⟨none, 0, [], rfl, rfl, OwnS.nil _ _, hbel3⟩
              · have hlb := longF_bd (LB.out.isB.drop at_)
                obtain ⟨q, hq⟩ := Int.eq_ofNat_of_zero_le hlb.1
                rw [if_neg hs3, hq] at hG0
                have G := Lib.hid hG0
                have hst0 : stepF (b.drop at_) = if (q : Int) < 128 ∨ (3000 : Int) < q then ((0, []), 0, 5) else pushF (b.drop at_) 3 q := by
                  unfold stepF
                  rw [drop_getD, Nat.add_zero, ← hv, if_neg (by decide), if_pos rfl, if_neg (by rw [List.length_drop, LB.out.rd.len]; omega), hq, Int.toNat_natCast]
                rw [hq] at hlb
                by_cases hbad : (q : Int) < 128 ∨ (3000 : Int) < q
                · rw [if_pos hbad] at hst0
                  rw [hst0, if_neg (by decide)] at hR
                  have R := Lib.hid hR
                  clear hR hst0 hv hG0 hq
                  by_cases hlo : q < 128
                  · have d7 : decide ((q : Int) < 128) = true := decide_eq_true (by omega)
                    clear hbad
                    go_wp2_with (fail)
                    refine (get_is (hb.below HO.out.2.2) (by omega) (by omega) G.out).mono ?_
                    rintro e w3 ⟨rfl, hb3⟩
                    have hbel3 := bThen HO.out.2.2 hb3
                    clear hb3
                    go_wp2_with (fail)
                    unfold jumps
                    go_ret2
                    rw [← R.out]
                    exact ⟨none, 0, [], rfl, rfl, OwnS.nil _ _, hbel3⟩
                  · have d7 : decide ((q : Int) < 128) = false := decide_eq_false (by omega)
                    have d8 : decide ((q : Int) > 3000) = true := decide_eq_true (by omega)
                    have d9 : decide ((3000 : Int) < q) = true := decide_eq_true (by omega)
                    have i5 : (3000 : Int) < q := by omega
                    have i6 : (128 : Int) ≤ q := by omega
                    clear hbad
                    go_wp2_with (fail)
                    refine (get_is (hb.below HO.out.2.2) (by omega) (by omega) G.out).mono ?_
                    rintro e w3 ⟨rfl, hb3⟩
                    have hbel3 := bThen HO.out.2.2 hb3
                    clear hb3
                    go_wp2_with (fail)
                    unfold jumps
                    go_ret2
                    rw [← R.out]
                    exact ⟨none, 0, [], rfl, rfl, OwnS.nil _ _, hbel3⟩
                · rw [if_neg hbad] at hst0
                  have SF := Lib.hid hst0
                  have d7 : decide ((q : Int) < 128) = false := decide_eq_false (by omega)
                  have d8 : decide ((q : Int) > 3000) = false := decide_eq_false (by omega)
                  have d9 : decide ((3000 : Int) < q) = false := decide_eq_false (by omega)
                  have i5 : (q : Int) ≤ 3000 := by omega
                  have i6 : (128 : Int) ≤ q := by omega
                  have RR := Lib.hid hR
                  clear hbad hst0 hv hG0 hq hR
                  go_wp2_with (fail)
                  refine (get_is (hb.below HO.out.2.2) (by omega) (by omega) G.out).mono ?_
                  rintro e w2 ⟨rfl, hb2⟩
                  have HO2 := Lib.hid (And.intro (((HO.out.1.set_low (p := ⟨w.heap.size, 0, none⟩) (Nat.lt_succ_self _) (.int .u8 1)).set_low (p := ⟨w.heap.size, 1, none⟩) (Nat.lt_succ_self _) (.slice none 0 0)).below hb2) (And.intro ((hb2.block w.heap.size (Array.getElem?_eq_some_iff.1 HO.out.2.1).1).trans HO.out.2.1) (bThen HO.out.2.2 hb2)))
                  have hz2 := HO2.out.2.2.size
                  clear HO hb2
                  have hR := RR.out
                  by_cases hsh : n - at_ < 3 + q
                  · have hst : stepF (b.drop at_) = ((0, []), 0, 4) := by rw [SF.out, push_at, if_pos (by rw [LB.out.rd.len]; exact hsh)]
                    have hP : partF b ((at_ : Int) + 3) q = ([], 4) := by
                      have h := part_at b (at_ + 3) q (by rw [LB.out.rd.len]; omega)
                      rw [if_pos (by rw [LB.out.rd.len]; omega)] at h
                      simpa using h
                    rw [hst, if_neg (by decide)] at hR
                    have R := Lib.hid hR
                    have P := Lib.hid hP
                    clear hR hst hP
                    go_wp2_with (fail)
                    refine (part_is (hb.below (HO2.out.2.2)) (by omega) (by omega) P.out).mono ?_
                    rintro e w3 ⟨A', c2, rfl, ho3, hb3⟩
                    have hrow3 : w3.heap[w.heap.size]? = some _ := (hb3.block w.heap.size (by have := (Array.getElem?_eq_some_iff.1 (HO2.out.2.1)).1; exact this)).trans (HO2.out.2.1)
                    obtain ⟨k0', k1', f0', f1'⟩ := box_two hrow3
                    have hbel3 := bThen (HO2.out.2.2) hb3
                    clear ho3 hb3 hrow3
                    go_wp2_with (fail)
                    unfold jumps
                    go_ret2
                    rw [← R.out]
                    exact ⟨none, 0, [], rfl, rfl, OwnS.nil _ _, hbel3.setCell (Nat.le_refl _) _⟩
                  · obtain ⟨p, hp⟩ : ∃ p, p = (b.drop (at_ + 3)).take q := ⟨_, rfl⟩
                    have hst : stepF (b.drop at_) = ((1, p), 3 + q, 0) := by rw [SF.out, push_at, if_neg (by rw [LB.out.rd.len]; exact hsh), hp]
                    have hpl : p.length = q := by rw [hp, List.length_take, List.length_drop, LB.out.rd.len]; omega
                    have hpB : IsB p := by rw [hp]; exact (LB.out.isB.drop _).take _
                    have hP : partF b ((at_ : Int) + 3) q = (p, 0) := by
                      have h := part_at b (at_ + 3) q (by rw [LB.out.rd.len]; omega)
                      rw [if_neg (by rw [LB.out.rd.len]; omega), ← hp] at h
                      simpa using h
                    rw [hst, if_pos rfl, List.drop_drop] at hR
                    have P := Lib.hid (And.intro hP (And.intro hpl hpB))
                    have R := Lib.hid hR
                    clear hR hst hP hp hpl hpB
                    go_wp2_with (fail)
                    refine (part_is (hb.below (HO2.out.2.2)) (by omega) (by omega) P.out.1).mono ?_
                    rintro e w3 ⟨A', c2, rfl, ho3, hb3⟩
                    have hrow3 : w3.heap[w.heap.size]? = some _ := (hb3.block w.heap.size (by have := (Array.getElem?_eq_some_iff.1 (HO2.out.2.1)).1; exact this)).trans (HO2.out.2.1)
                    obtain ⟨k0', k1', f0', f1'⟩ := box_two hrow3
                    have hbel3 := bThen (HO2.out.2.2) hb3
                    have hrow4 := heap_setCell_same _ _ 1 _ _ (.slice A' q c2) hrow3
                    have hoS := ((HO2.out.1).below hb3).set_low (p := ⟨w.heap.size, 1, none⟩) (Nat.lt_succ_self _) (.slice A' q c2)
                    have hoB : OwnB (w3.setCell ⟨w.heap.size, 1, none⟩ (.slice A' q c2)) (w.heap.size + 1) A' q c2 p := by
                      have hlow := (Array.getElem?_eq_some_iff.1 (HO2.out.2.1)).1
                      have h := OwnN.mono ho3 (show w.heap.size + 1 ≤ _ from hlow)
                      rw [P.out.2.1] at h
                      exact Own.setOther h (fun e => by have := (OwnN.lt h _ e).1; simp at this; omega) _
                    rw [P.out.2.1]
                    have hlt := Own.lt hoS.row
                    have H4 := Lib.hid (And.intro hoS (And.intro hoB (And.intro hrow4 hbel3)))
                    clear ho3 hb3 hrow3 hrow4 hoS hoB
                    have hz3 := hbel3.size
                    clear hbel3
                    go_wp2_with (fail)
                    go_step3
                    go_wp2_with (at_builtin; refine Stop.mk ?_)
                    refine Stop.out ?_
                    refine wpList_appS (w3.setCell ⟨w.heap.size, 1, none⟩ (.slice A' q c2)) rfl (.tmp 80) (.tmp 82) rfl (w.heap.size + 1) B m c' hs ⟨1, A', q, c2, p⟩ rfl H4.out.1 _ rfl (by simp) ⟨(by decide : (0 : Int) ≤ 1), (by decide : (1 : Int) ≤ 255)⟩ H4.out.2.1 P.out.2.2 (show q ≤ _ by omega) (by omega) (by have := (World.block_lt_of_cell? _ _ k0'); simp at this ⊢; omega) ?_
                    intro B2 c4 w4 ho4 hg
                    have hbel4 : Below w.heap.size w w4 := (belA (H4.out.2.2.2.setCell (Nat.le_refl _) _) _ (Nat.le_refl _)).grown hg (by simp; omega) (fun g hg => by have := (hlt g hg).1; omega)
                    have hrow5 : w4.heap[w.heap.size]? = some (.cells #[.int .u8 1, .slice A' q c2] 55 (0, 0)) := by
                      have hb0 := World.block_lt_of_cell? _ _ k0'
                      refine (hg.block w.heap.size (by simp; simp at hb0; omega) (fun e => by have := (hlt _ e.symm).1; omega)).trans ?_
                      rw [Below.heap_alloc _ _ _ (by simp; simp at hb0; exact hb0)]
                      exact H4.out.2.2.1
                    have H5 := Lib.hid (And.intro ho4 (And.intro hbel4 hrow5))
                    clear ho4 hbel4 hrow5 hg hlt H4
                    go_wp2_with (fail)
                    go_step3
                    have hat2 : ((at_ : Int) + 3 + q) = ((at_ + (3 + q) : Nat) : Int) := by omega
                    rw [hat2]
                    refine ⟨.inl ⟨rfl, B2, m + 1, c4, at_ + (3 + q), j, hs ++ [⟨1, A', q, c2, p⟩], _, _, ?_, by omega, by omega, H5.out.1, by omega, ?_, H5.out.2.1, H5.out.2.2⟩, ?_⟩
                    · exact ⟨_, _, _, _, _, _, _, _, _, _, _, _, _, _, _, _, _, _, _, _, _, _, _, _, _, _, _, _, _, _, _, _, _, _, _, _, _, _, _, _, _, _, _, _, _, _, _, _, _, _, _, _, _, _, _, _, _, _, _, _, _, _, _, _, _, _, _, _, _, _, _, _, _, _, _, _, _, _, _, _, rfl⟩
                    · rw [sts_append]; exact R.out
                    · simp [intOf]; omega
            · have d4 : (v == 128) = false := by rw [beq_eq_false_iff_ne]; exact hv2
              by_cases hv3 : v ≤ 147
              · have hst : stepF (b.drop at_) = ((v - 128 + 1, []), 1, 0) := by unfold stepF; rw [drop_getD, Nat.add_zero, ← hv, if_neg (by omega), if_neg hv2, if_pos hv3, show v - 127 = v - 128 + 1 from by omega]
                rw [hst, if_pos rfl, List.drop_drop] at hR
                have R := Lib.hid hR
                have d5 : decide (v ≥ 129) = true := decide_eq_true (by omega)
                have d6 : decide (v ≤ 147) = true := decide_eq_true hv3
                have hrow3 := heap_setCell_same _ _ 0 _ _ (.int .u8 (v - 128 + 1)) HO.out.2.1
                have H3 := Lib.hid (And.intro hrow3 (And.intro (((HO.out.1.set_low (p := ⟨w.heap.size, 0, none⟩) (Nat.lt_succ_self _) (.int .u8 1)).set_low (p := ⟨w.heap.size, 1, none⟩) (Nat.lt_succ_self _) (.slice none 0 0)).set_low (p := ⟨w.heap.size, 0, none⟩) (Nat.lt_succ_self _) (.int .u8 (v - 128 + 1))) (HO.out.2.2.setCell (Nat.le_refl _) (.int .u8 (v - 128 + 1)) (p := ⟨w.heap.size, 0, none⟩))))
                clear hR hst hv hv2 hrow3
                go_wp2_with (fail)
                go_step3
                refine ⟨.inr ⟨rfl, B, m, c', at_ + 1, j, hs, ⟨v - 128 + 1, none, 0, 0, []⟩, ?_, by omega, hm2, H3.out.2.1, by omega, R.out, H3.out.2.2, H3.out.1, ⟨by show 0 ≤ v - 128 + 1; omega, by show v - 128 + 1 ≤ 255; omega⟩, OwnN.nil _ _ _ _, IsB.nil, Nat.zero_le _⟩, ?_⟩
                · exact ⟨_, _, _, _, _, _, _, _, _, _, _, _, _, _, _, _, _, _, _, _, _, _, _, _, _, _, _, _, _, _, _, _, _, _, _, _, _, _, _, _, _, _, _, _, _, _, _, _, _, _, _, _, _, _, _, _, _, _, _, _, _, _, _, _, _, _, _, _, _, _, _, _, _, _, _, _, _, _, _, _, rfl⟩
                · simp [intOf]; omega
              · have hst : stepF (b.drop at_) = ((0, []), 0, 5) := by unfold stepF; rw [drop_getD, Nat.add_zero, ← hv, if_neg (by omega), if_neg hv2, if_neg hv3]
                rw [hst, if_neg (by decide)] at hR
                have R := Lib.hid hR
                have d5 : decide (v ≥ 129) = true := decide_eq_true (by omega)
                have d6 : decide (v ≤ 147) = false := decide_eq_false hv3
                clear hR hst hv hv2
                go_wp2_with (fail)
                unfold jumps
                go_ret2
                rw [← R.out]
                exact ⟨none, 0, [], rfl, rfl, OwnS.nil _ _, HO.out.2.2⟩
    · refine ⟨_, rfl, ?_⟩
      rcases hfr with ⟨u1, u2, u3, u6, u7, u9, u10, u11, u12, u13, u14, u15, u16, u17, u18, u19, u20, u21, u22, u23, u24, u25, u26, u27, u28, u29, u30, u31, u32, u33, u34, u35, u36, u37, u38, u39, u40, u41, u42, u43, u44, u45, u46, u47, u48, u49, u50, u51, u52, u53, u54, u55, u56, u57, u58, u59, u60, u61, u62, u63, u64, u65, u66, u67, u68, u69, u70, u71, u72, u73, u74, u75, u76, u77, u78, u79, u80, u81, u82, u83, rfl⟩
      obtain ⟨k0, k1, f0, f1⟩ := box_two hrow
      have hz := hbel.size
      have hown := ho.alloc (.cells x.cells.toArray 55)
      have hlt := Own.lt ho.row
      go_wp2_with (at_builtin; refine Stop.mk ?_)
      refine Stop.out ?_
      refine wpList_appS w' rfl (.tmp 80) (.tmp 82) rfl (w.heap.size + 1) B m c' hs x rfl ho w'.heap.size rfl rfl hx1 hx2 hx3 hx4 (by omega) (by have := (World.block_lt_of_cell? _ _ k0); simp at this; omega) ?_
      intro B2 c2 w2 ho2 hg
      have hbel2 : Below w.heap.size w w2 := (belA hbel _ (Nat.le_refl _)).grown hg (by simp; omega) (fun g hg => by have := (hlt g hg).1; omega)
      have hrow2 : w2.heap[w.heap.size]? = some (.cells #[.int .u8 x.op, .slice x.A x.n x.c] 55 (0, 0)) := by
        have hb0 := World.block_lt_of_cell? _ _ k0
        refine (hg.block w.heap.size (by simp; simp at hb0; omega) (fun e => by have := (hlt _ e.symm).1; omega)).trans ?_
        rw [Below.heap_alloc _ _ _ (by simp at hb0; exact hb0)]
        exact hrow
      have H3 := Lib.hid (And.intro ho2 (And.intro hbel2 hrow2))
      clear ho2 hbel2 hrow2 hg ho hx2 hrow hown
      go_wp2_with (fail)
      go_step3
      refine ⟨.inl ⟨rfl, B2, m + 1, c2, at_, k, hs ++ [x], _, _, ?_, hat, by omega, H3.out.1, hk, ?_, H3.out.2.1, H3.out.2.2⟩, ?_⟩
      · exact ⟨_, _, _, _, _, _, _, _, _, _, _, _, _, _, _, _, _, _, _, _, _, _, _, _, _, _, _, _, _, _, _, _, _, _, _, _, _, _, _, _, _, _, _, _, _, _, _, _, _, _, _, _, _, _, _, _, _, _, _, _, _, _, _, _, _, _, _, _, _, _, _, _, _, _, _, _, _, _, _, _, rfl⟩
      · rw [sts_append]; exact hR
      · simp [intOf]
  · intro H
    go_wp2_with (fail)
    go_step3
    rename_i hK
    refine hK _ _ (H _ _ (.inl ⟨rfl, none, 0, 0, 0, b.length, [], _, _, ?_, by omega, by omega, OwnS.nil _ _, by rw [hb.rd.len]; omega, rfl, (Below.refl _ _).alloc (Nat.le_refl _) _, heap_alloc_new w _⟩) _ rfl)
    exact ⟨_, _, _, _, _, _, _, _, _, _, _, _, _, _, _, _, _, _, _, _, _, _, _, _, _, _, _, _, _, _, _, _, _, _, _, _, _, _, _, _, _, _, _, _, _, _, _, _, _, _, _, _, _, _, _, _, _, _, _, _, _, _, _, _, _, _, _, _, _, _, _, _, _, _, _, _, _, _, _, _, rfl⟩
end Go.Proofs.Ytpbnodomopdjhaa
