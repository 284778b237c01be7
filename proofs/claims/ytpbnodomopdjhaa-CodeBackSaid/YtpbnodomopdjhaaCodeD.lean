/- What the reference's Put answers. -/
import Derived.Test.YtpbnodomopdjhaaCodeC
namespace Go.Proofs.Ytpbnodomopdjhaa
open Go.RowKit Go.Proofs En Cd
set_option linter.unusedVariables false
set_option linter.unusedSimpArgs false

theorem all_snoc {hs : List Hd} {j : Nat} {x : Hd} (hx : hs[j]? = some x) (h : (sts (hs.take j)).all mayF = true) (hm : mayF x.st = true) : (sts (hs.take (j + 1))).all mayF = true := by
  rw [sts_take_snoc hs j x hx, List.all_append, h]
  simp [hm]
theorem all_not {hs : List Hd} {j : Nat} {x : Hd} (hx : hs[j]? = some x) (hm : mayF x.st = false) : ¬ (sts hs).all mayF = true := by
  intro h
  have := may_at h hx
  rw [hm] at this
  cases this

set_option maxRecDepth 10000 in
set_option maxHeartbeats 1000000 in
theorem rcput_any (B : Option Addr) (m c : Nat) (hs : List Hd) (w : World) (hb : ArgS w B m c hs) :
    Calls Try.prog 38 #[.slice B m c] w fun e w' => ∃ A k, e = .returned (.tuple #[.slice A (Cd.putF (sts hs)).1.length k, .int .i64 (Cd.putF (sts hs)).2]) ∧ OwnB w' w.heap.size A (Cd.putF (sts hs)).1.length k (Cd.putF (sts hs)).1 ∧ Below w.heap.size w w' := by
  have hlen := hb.len
  have hml := hb.length
  have hsl : (sts hs).length = m := by unfold sts; rw [List.length_map]; exact hml
  have HB := Lib.hid (And.intro hb (And.intro hml hsl))
  clear hml hsl
  go_enter Try.func38, Try.ntmps38
  go_wp2_with (fail)
  go_loopw [4] (fun i wr => ∃ j : Nat, j ≤ m ∧ i = .int .i64 j ∧ (sts (hs.take j)).all mayF = true ∧ Below w.heap.size w wr) (fun i _ => m - (intOf i).toNat)
  case atStart => exact ⟨0, by omega, rfl, rfl, Below.refl _ _⟩
  case round =>
    obtain ⟨j, hj, rfl, hall, hbel⟩ := hrel
    have AL := Lib.hid hall
    clear hall
    by_cases hlt : j < m
    · obtain ⟨ad, x, rfl, hx, hok, hbk, hc0, hc1, hc2⟩ := (hb.below hbel).at_ hlt
      have hop := hok.1
      have hxl := hok.2.len
      have hz := hbel.size
      obtain ⟨r, hr⟩ : ∃ r, mayB x.op x.n = r := ⟨_, rfl⟩
      have C := Lib.hid (fun w' => rmay_any x.op x.A x.n x.c w' hop (by omega))
      have hmf : mayF x.st = r := by rw [← mayB_of hok]; exact hr
      rw [hr] at C
      have X := Lib.hid (And.intro hx hmf)
      clear hx hr hok hmf
      go_wp2_with (fail)
      refine (C.out _).mono ?_
      rintro e w2 ⟨rfl, hb2⟩
      have hbel := bThen hbel hb2
      have hz := hbel.size
      clear hb2 C
      cases r with
      | false =>
        go_wp2_with (fail)
        go_ret2
        have hp : Cd.putF (sts hs) = ([], 2) := by unfold Cd.putF; rw [if_neg (all_not X.out.1 X.out.2)]
        rw [hp]
        exact ⟨none, 0, rfl, OwnN.nil _ _ _ _, hbel⟩
      | true =>
        go_wp2_with (fail)
        go_roundw
        case rel => exact ⟨j + 1, by omega, by go_num, all_snoc X.out.1 AL.out X.out.2, hbel⟩
        case measure => simp [intOf]; omega
    · obtain rfl : j = m := by omega
      have hall : (sts hs).all mayF = true := by
        have e := AL.out
        rw [List.take_of_length_le (by rw [HB.out.2.1]; exact Nat.le_refl _)] at e
        exact e
      have hz := hbel.size
      by_cases h200 : j ≤ 200
      · have hp : Cd.putF (sts hs) = (allF (sts hs), 0) := by unfold Cd.putF; rw [if_pos hall, if_pos (by rw [HB.out.2.2]; exact h200)]
        have P := Lib.hid hp
        have d1 : decide (j > 200) = false := decide_eq_false (by omega)
        have ALL := Lib.hid (And.intro hall (And.intro HB.out.2.1 HB.out.1))
        clear hp hall AL HB
        generalize hmj : j = m at *
        clear hmj j
        go_wp2_with (fail)
        go_loopw [5, 6] (fun v i wr => ∃ j : Nat, j ≤ m ∧ i = .int .i64 j ∧ (∃ A k n, v = .slice A n k ∧ OwnB wr w.heap.size A n k (allF (sts (hs.take j)))) ∧ Below w.heap.size w wr) (fun _ i _ => m - (intOf i).toNat)
        case atStart => exact ⟨0, by omega, rfl, ⟨none, 0, 0, rfl, OwnN.nil _ _ _ _⟩, hbel⟩
        case round =>
          clear hbel hz
          obtain ⟨j, hj, rfl, ⟨A, k, n, rfl, ho⟩, hbel⟩ := hrel
          by_cases hlt : j < m
          · obtain ⟨ad, x, rfl, hx, hok', hbk, hc0, hc1, hc2⟩ := (hb.below hbel).at_ hlt
            have hok := ALL.out.2.2.ok x (List.mem_of_getElem? hx)
            have hop := hok.1
            have hxl := hok.2.len
            have hxc := hok.2.cap
            have hz := hbel.size
            have hn : n ≤ 3003 * j := by
              have h1 := ho.len
              have h2 := allF_length _ (all_take ALL.out.1 j)
              have h3 : (sts hs).take j = sts (hs.take j) := by unfold sts; rw [List.map_take]
              have h4 : ((sts hs).take j).length ≤ j := by rw [List.length_take]; omega
              rw [h3] at h2 h4
              omega
            have hsn := sts_take_snoc hs j x hx
            have hcs := may_cases hok (may_at ALL.out.1 hx)
            have hpl := hok.2.rd.len
            have X := Lib.hid (And.intro hsn (And.intro hok (And.intro hpl hx)))
            clear hsn hx hok hok' hpl
            rcases hcs with ⟨h1, h3⟩ | ⟨h1, h3, h4, h5⟩
            · have t1 : (x.op != 1) = false := by rw [bne_eq_false_iff_eq]; exact h1
              by_cases h127 : x.n < 128
              · have t2 : decide (x.n < 128) = true := decide_eq_true h127
                have e9 : (x.n : Int) % 256 = x.n := Int.emod_eq_of_lt (by omega) (by omega)
                go_wp2_with (at_builtin; refine Stop.mk ?_)
                refine Stop.out ?_
                refine wpList_appN _ rfl (.tmp 52) (.tmp 55) _ rfl w.heap.size 5 .u8 1 Try.underlying23 inf_b A n k _ rfl (OwnN.alloc ho _) (some ⟨wr.heap.size, 0, none⟩) 1 1 [(x.n : Int)] rfl
                  (rd_lit wr [(x.n : Int)] 1 (by omega) rfl) (by unfold maxLen; omega) (by omega) (by simp; omega) ?_
                intro A1 k1 w2 ho1 hg _
                have hb2 : Below w.heap.size w w2 := (belA hbel _ (Nat.le_refl _)).grown hg (by simp; omega) (fun g hg => (OwnN.lt ho g hg).1)
                obtain ⟨ad2, x2, e2, hx2, _, _, hd0, hd1, hd2⟩ := (hb.below hb2).at_ hlt
                obtain rfl := Option.some.inj e2
                obtain rfl : x2 = x := Option.some.inj (hx2.symm.trans X.out.2.2.2)
                have hz2 := hb2.size
                clear hg e2 hx2 hc0 hc1 hc2
                go_wp2_with (at_builtin; refine Stop.mk ?_)
                refine Stop.out ?_
                refine wpList_appN _ rfl (.tmp 66) (.tmp 71) _ rfl w.heap.size 5 .u8 1 Try.underlying23 inf_b A1 (n + 1) k1 _ rfl ho1 x2.A _ x2.c x2.p rfl
                  (X.out.2.1.2.below hb2).rd (by unfold maxLen; omega) (by omega) hz2 ?_
                intro A3 k3 w3 ho3 hg _
                have hb3 : Below w.heap.size w w3 := hb2.grown hg hz2 (fun g hg => (OwnN.lt ho1 g hg).1)
                have hz3 := hb3.size
                have H3 := Lib.hid (And.intro ho3 hb3)
                clear hg ho1 hb2 ho3 hb3 ho hbel
                go_wp2_with (fail)
                go_roundw
                case rel =>
                  refine ⟨j + 1, by omega, by go_num, ⟨A3, k3, _, rfl, ?_⟩, H3.out.2⟩
                  rw [X.out.1, allF_snoc]
                  have e : oneF x2.st = [(x2.n : Int)] ++ x2.p := by unfold oneF Hd.st; rw [if_pos h1, X.out.2.2.1, if_pos (by omega)]; rfl
                  rw [e, ← List.append_assoc]
                  exact H3.out.1
                case measure => simp [intOf]; omega
              · have t2 : decide (x.n < 128) = false := decide_eq_false h127
                have e8 : (x.n : Int).tmod 256 = (x.n : Int) % 256 := Int.tmod_eq_emod_of_nonneg (by omega)
                have e7 : (x.n : Int).tdiv 256 = (x.n : Int) / 256 := Int.tdiv_eq_ediv_of_nonneg (by omega)
                have e9 : (x.n : Int) / 256 % 256 = (x.n : Int) / 256 := Int.emod_eq_of_lt (by omega) (by omega)
                go_wp2_with (at_builtin; refine Stop.mk ?_)
                refine Stop.out ?_
                refine wpList_appN _ rfl (.tmp 57) (.tmp 64) _ rfl w.heap.size 5 .u8 1 Try.underlying23 inf_b A n k _ rfl (OwnN.alloc ho _) (some ⟨wr.heap.size, 0, none⟩) 3 3 [128, (x.n : Int) % 256, (x.n : Int) / 256] rfl
                  (rd_lit wr [128, (x.n : Int) % 256, (x.n : Int) / 256] 3 (by omega) rfl) (by unfold maxLen; omega) (by omega) (by simp; omega) ?_
                intro A1 k1 w2 ho1 hg _
                have hb2 : Below w.heap.size w w2 := (belA hbel _ (Nat.le_refl _)).grown hg (by simp; omega) (fun g hg => (OwnN.lt ho g hg).1)
                obtain ⟨ad2, x2, e2, hx2, _, _, hd0, hd1, hd2⟩ := (hb.below hb2).at_ hlt
                obtain rfl := Option.some.inj e2
                obtain rfl : x2 = x := Option.some.inj (hx2.symm.trans X.out.2.2.2)
                have hz2 := hb2.size
                clear hg e2 hx2 hc0 hc1 hc2
                go_wp2_with (at_builtin; refine Stop.mk ?_)
                refine Stop.out ?_
                refine wpList_appN _ rfl (.tmp 66) (.tmp 71) _ rfl w.heap.size 5 .u8 1 Try.underlying23 inf_b A1 (n + 3) k1 _ rfl ho1 x2.A _ x2.c x2.p rfl
                  (X.out.2.1.2.below hb2).rd (by unfold maxLen; omega) (by omega) hz2 ?_
                intro A3 k3 w3 ho3 hg _
                have hb3 : Below w.heap.size w w3 := hb2.grown hg hz2 (fun g hg => (OwnN.lt ho1 g hg).1)
                have hz3 := hb3.size
                have H3 := Lib.hid (And.intro ho3 hb3)
                clear hg ho1 hb2 ho3 hb3 ho hbel
                go_wp2_with (fail)
                go_roundw
                case rel =>
                  refine ⟨j + 1, by omega, by go_num, ⟨A3, k3, _, rfl, ?_⟩, H3.out.2⟩
                  rw [X.out.1, allF_snoc]
                  have e : oneF x2.st = [128, (x2.n : Int) % 256, (x2.n : Int) / 256] ++ x2.p := by unfold oneF Hd.st; rw [if_pos h1, X.out.2.2.1, if_neg (by omega)]; rfl
                  rw [e, ← List.append_assoc]
                  exact H3.out.1
                case measure => simp [intOf]; omega
            · have t1 : (x.op != 1) = true := by rw [bne_iff_ne]; exact h1
              go_wp2_with (at_builtin; refine Stop.mk ?_)
              refine Stop.out ?_
              refine wpList_appN _ rfl (.tmp 41) (.tmp 48) _ rfl w.heap.size 5 .u8 1 Try.underlying23 inf_b A n k _ rfl (OwnN.alloc ho _) (some ⟨wr.heap.size, 0, none⟩) 1 1 [127 + x.op] rfl
                (rd_lit wr [127 + x.op] 1 (by omega) rfl) (by unfold maxLen; omega) (by omega) (by simp; omega) ?_
              intro A1 k1 w2 ho1 hg _
              have hb2 : Below w.heap.size w w2 := (belA hbel _ (Nat.le_refl _)).grown hg (by simp; omega) (fun g hg => (OwnN.lt ho g hg).1)
              obtain ⟨ad2, x2, e2, hx2, _, _, hd0, hd1, hd2⟩ := (hb.below hb2).at_ hlt
              obtain rfl := Option.some.inj e2
              obtain rfl : x2 = x := Option.some.inj (hx2.symm.trans X.out.2.2.2)
              have hz2 := hb2.size
              clear hg e2 hx2 hc0 hc1 hc2
              go_wp2_with (at_builtin; refine Stop.mk ?_)
              refine Stop.out ?_
              refine wpList_appN _ rfl (.tmp 66) (.tmp 71) _ rfl w.heap.size 5 .u8 1 Try.underlying23 inf_b A1 (n + 1) k1 _ rfl ho1 x2.A _ x2.c x2.p rfl
                (by have h := (X.out.2.1.2.below hb2).rd; rw [h5] at h; exact h) (by unfold maxLen; omega) (by omega) hz2 ?_
              intro A3 k3 w3 ho3 hg _
              have hb3 : Below w.heap.size w w3 := hb2.grown hg hz2 (fun g hg => (OwnN.lt ho1 g hg).1)
              have hz3 := hb3.size
              have H3 := Lib.hid (And.intro ho3 hb3)
              clear hg ho1 hb2 ho3 hb3 ho hbel
              go_wp2_with (fail)
              go_roundw
              case rel =>
                refine ⟨j + 1, by omega, by go_num, ⟨A3, k3, _, rfl, ?_⟩, H3.out.2⟩
                rw [X.out.1, allF_snoc]
                have e0 : x2.p = [] := List.eq_nil_of_length_eq_zero (by rw [X.out.2.2.1, h5])
                have e : oneF x2.st = [127 + x2.op] ++ x2.p := by rw [e0]; unfold oneF Hd.st; rw [if_neg h1]; rfl
                rw [e, ← List.append_assoc]
                exact H3.out.1
              case measure => simp [intOf]; omega
          · obtain rfl : j = m := by omega
            have e : hs.take j = hs := List.take_of_length_le (by rw [ALL.out.2.1]; exact Nat.le_refl _)
            rw [e] at ho
            have hlo := ho.len
            have H3 := Lib.hid (And.intro ho (And.intro hbel hlo))
            clear ho hbel hlo e
            go_wp2_with (fail)
            go_ret2
            have hl := H3.out.2.2
            subst hl
            rw [P.out]
            exact ⟨A, k, rfl, H3.out.1, H3.out.2.1⟩
      · have hp : Cd.putF (sts hs) = ([], 3) := by unfold Cd.putF; rw [if_pos hall, if_neg (by rw [HB.out.2.2]; exact h200)]
        have P := Lib.hid hp
        have d1 : decide (j > 200) = true := decide_eq_true (by omega)
        have d2 : decide ((j : Int) > 200) = true := decide_eq_true (by omega)
        clear hp hall
        go_wp2_with (fail)
        go_ret2
        rw [P.out]
        exact ⟨none, 0, rfl, OwnN.nil _ _ _ _, hbel⟩
end Go.Proofs.Ytpbnodomopdjhaa
