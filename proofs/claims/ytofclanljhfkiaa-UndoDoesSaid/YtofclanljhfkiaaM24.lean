/- Joined texts: UnE, UnF. -/
import Derived.Test.YtofclanljhfkiaaM23
import Derived.RangeFuncNested
import Derived.RangeFuncBound
import Derived.RangeFuncCalls
import Derived.RangeFuncLeaves
import Derived.OwnWalkIn
import Derived.TacticsInMore
import Derived.LoopNIn
import Derived.LoopIn
/- undo.Do on a table: the walk. -/
namespace Go.Proofs.Ytofclanljhfkiaa
open Go.RowKit Go.Proofs En Co
set_option linter.unusedVariables false
set_option linter.unusedSimpArgs false
set_option maxRecDepth 20000
attribute [local go_sem ↓] ld_point_eq ld_coin_eq ld_hash_eq st_point_eq st_coin_eq bd_point_eq bd_coin_eq eq_point_eq ne_point_eq al_coin_eq al_point_eq bs_coin_eq bs_point_eq
attribute [local go_sem] ld_point_run ld_coin_run ld_hash_run st_point_run st_coin_run bd_point_zero bd_coin_zero bd_point_of bd_coin_of hash_at rowIs_34 rowIs_37 rowIs_both hasAt_both cellsAt_both eq_point_run ne_point_run guard_pt al_coin_run al_point_run al_coin_row al_point_row nil_bytes nil_coins bs_coin_run bs_point_run

theorem tableF_pos (ps : List (List Cn)) : 0 < (tableF ps).length := by
  unfold tableF
  rw [List.length_append]
  have : 0 < (countF ps.length).length := by
    unfold countF
    split
    · simp
    · split
      · simp
      · split <;> simp
  omega
theorem own_some {w : World} {base : Nat} {e : TypeId} {size : Nat} {G : Value → Prop} {A : Option Addr} {n c : Nat} {cs : List Value} (h : Own w base e size G A n c cs) (hn : 0 < n) : ∃ k, A = some ⟨k, 0, none⟩ := by
  rcases h.2 with ⟨_, h0, _⟩ | ⟨k, _, e, _⟩
  · omega
  · exact ⟨k, e⟩
theorem Boxes.only {wc w4 : World} {X g : Nat} {P : Option Addr} {x y : Value} {q : Int} (hx : wc.heap[X]? = some (.cells #[x, y] 25 (0, 0))) (hy : wc.heap[X + 1]? = some (.cells #[.int .i64 q] 30 (0, 0))) (hk : Kinds wc g P) (ho : Only wc w4 g P) : Boxes w4 X x y q := ⟨ho.boxU hk hx (by decide) (by decide), ho.boxU hk hy (by decide) (by decide)⟩
abbrev undoBox : Obj := .cells #[.slice none 0 0, .slice none 0 0] 25
abbrev errBox : Obj := .cells #[.int .i64 0] 30

set_option maxRecDepth 20000 in
set_option maxHeartbeats 4000000 in
theorem do_m {w : World} {base g : Nat} {P : Option Addr} {ps : List (List Cn)} (h : Tb w base g P ps) {B : Option Addr} {n c : Nat} {xs : List Pt} (hq : FirmQ w base B n c xs) {B2 : Option Addr} {n2 c2 : Nat} {hs : List Cm} (hp : FirmP w base ⟨B2, n2, c2, hs⟩) :
    Calls Try.prog 15 #[ptr g, .slice B n c, .slice B2 n2 c2] w fun e w' => DoE w base g P (doM ps xs (cns hs)) e w' := by
  obtain ⟨f0, g0⟩ := two_box w undoBox errBox
  have b0 : Below w.heap.size w ((w.alloc undoBox).alloc errBox) := belA ((Below.refl _ _).alloc (Nat.le_refl _) _) _ (Nat.le_refl _)
  have CB := Lib.hid (bytes_m (h.below b0))
  have H := Lib.hid (And.intro h (And.intro hq (And.intro hp (And.intro f0 (And.intro g0 b0)))))
  have hgl := h.low.2
  have hbase : base ≤ w.heap.size := by have := h.low; omega
  have hPl : ∀ j, blk P = some j → j < w.heap.size := fun j hj => (h.plow j hj).2
  have hpm := h.most
  have hncap := hq.cap
  have hmax : c ≤ 9223372036854775807 := by have := hq.max; simp only [maxLen] at this; omega
  have hn2cap : n2 ≤ c2 := hp.arg.cap
  have hmax2 : c2 ≤ 9223372036854775807 := by have := hp.arg.max; simp only [maxLen] at this; omega
  clear h hq hp f0 g0 b0
  go_enter_defers Try.func15, Try.ntmps15
  go_wp2_with (fail)
  refine CB.out.mono ?_
  rintro e w1 ⟨A1, k1, rfl, hl1, hb1⟩
  obtain ⟨q1, rfl⟩ := own_some hl1 (tableF_pos ps)
  have CC := Lib.hid (copy_m (H.out.1.below (bThen H.out.2.2.2.2.2 hb1)))
  have B1 := Lib.hid (And.intro (bThen H.out.2.2.2.2.2 hb1) hb1)
  clear hl1 hb1
  go_wp2_with (fail)
  refine CC.out.mono ?_
  rintro e wc ⟨g2, P2, rfl, hT2, hb2⟩
  have bc := bThen B1.out.1 hb2
  have hbk := bThen B1.out.2 hb2
  have fX := kept H.out.2.2.2.1 hbk
  have fY := kept H.out.2.2.2.2.1 hbk
  have S := Lib.hid (And.intro bc (And.intro (H.out.1.below bc) (And.intro (H.out.2.1.below bc) (And.intro (H.out.2.2.1.below bc) (And.intro hT2 (And.intro fX fY))))))
  clear bc hbk fX fY hT2 hb2
  go_wp2_with (fail)
  go_loopw [10, 11, 12, 25] (fun _ _ _ i wr => ∃ (k : Nat) (Pk : Option Addr) (qs : List (List Cn)) (A : Option Addr) (d : Nat) (ks : List Cm), k ≤ n ∧ i = .int .i64 k ∧ TakeI ps xs k qs (cns ks) ∧ DoS wc wr base g P Pk qs A k d ks none 0 0 []) (fun _ _ _ i _ => n - (intOf i).toNat)
  case atStart =>
    refine ⟨0, P, ps, none, 0, [], by omega, rfl, TakeI.start _ _, ?_⟩
    have a0 : Below wc.heap.size wc (wc.alloc undoBox) := (Below.refl _ _).alloc (Nat.le_refl _) _
    exact ⟨Only.of a0, .inl rfl, S.out.2.1.below a0, OwnP.nil _ _, fun _ => rfl, fun j h => (by cases h), OwnQ.nil _ _, fun j h => (by cases h), heap_alloc_new _ _⟩
  case round =>
    obtain ⟨k, Pk, qs, A, d, ks, hk, rfl, hT, hD⟩ := hrel
    by_cases hlt : k < n
    · have d1 : decide ((k : Int) < (n : Int)) = true := decide_eq_true (by omega)
      have hsoft := Soft.tb S.out.2.1 hD.only
      obtain ⟨ad, p, rfl, hp, hpo, hbk, hcp⟩ := (S.out.2.2.1.soft hsoft).at_ hlt
      have hld := ld_point_of wr (ad.add (k * 34)) p hpo hcp
      have sl := slot_self wr (.cells (pc zeroPt).toArray 54) (pc p).toArray
      have hl2 := ld_point_of _ ⟨wr.heap.size, 0, none⟩ p hpo (point_at (both_row wr (pc zeroPt).toArray 54 (pc p).toArray))
      have TK := take_m (hD.t.below sl) p hpo
      have hck := takeM_ok (p := p) hD.t.ok
      obtain ⟨qs2, cn, q, hcq⟩ : ∃ qs2 cn q, takeM qs p = (qs2, cn, q) := ⟨_, _, _, rfl⟩
      simp only [hcq] at TK hck
      have TK := Lib.hid TK
      have X := Lib.hid (And.intro hT (And.intro hp (And.intro hcq (And.intro hD sl))))
      have i1 : (0 : Int) ≤ (k : Int) := by omega
      have i2 : (k : Int) < (n : Int) := by omega
      have hokz := cc_ok (m := zm) zeroPt_ok
      have hokp := pc_ok hpo
      clear hT hp hcq hD sl hcp hsoft
      go_wp2_with (fail)
      refine TK.out.mono ?_
      rintro e w3 ⟨A3, k3, rfl, hl3, P', hT3, hk3, ho3⟩
      have hok3 := cc_ok (m := ⟨cn, A3, k3⟩) hck.p
      have sl3 := slot_self w3 (.cells (cc zm).toArray 57) (cc ⟨cn, A3, k3⟩).toArray
      have D3 := (((X.out.2.2.2.1.below X.out.2.2.2.2).move ho3 hk3 hT3).below sl3)
      have hl3 := OwnN.below hl3 sl3
      have hlc := ld_coin_at _ ⟨w3.heap.size, 0, none⟩ ⟨cn, A3, k3⟩ hck.p (coin_at (both_row w3 (cc zm).toArray 57 (cc ⟨cn, A3, k3⟩).toArray))
      clear hT3 hk3 ho3 sl3 hld hl2
      by_cases hq0 : q = 0
      · have dq : (q == 0) = true := by rw [hq0]; rfl
        have dq2 : (q != 0) = false := by rw [hq0]; rfl
        have hlu := (row_cells D3.box 0).1
        have hlu2 := (row_cells D3.box 0).2
        have l3 : Below ((w3.alloc (.cells (cc zm).toArray 57)).setRow w3.heap.size (cc ⟨cn, A3, k3⟩).toArray).heap.size ((w3.alloc (.cells (cc zm).toArray 57)).setRow w3.heap.size (cc ⟨cn, A3, k3⟩).toArray) (((w3.alloc (.cells (cc zm).toArray 57)).setRow w3.heap.size (cc ⟨cn, A3, k3⟩).toArray).alloc (.cells (cc ⟨cn, A3, k3⟩).toArray 57)) := (Below.refl _ _).alloc (Nat.le_refl _) _
        have D4 := D3.below l3
        have hl4 := OwnN.below hl3 l3
        have hin : cn ∈ qs.flatten := by
          have := takeM_in (ps := qs) (p := p) (by rw [X.out.2.2.1]; exact hq0)
          rwa [X.out.2.2.1] at this
        have hll := X.out.2.2.2.1.t.llen cn hin
        have hz3 : base ≤ (((w3.alloc (.cells (cc zm).toArray 57)).setRow w3.heap.size (cc ⟨cn, A3, k3⟩).toArray).alloc (.cells (cc ⟨cn, A3, k3⟩).toArray 57)).heap.size := by have := D4.t.low; omega
        have hkm : k + 1 ≤ 1000000000 := by have := X.out.1.len; omega
        have hone := one_row ((w3.alloc (.cells (cc zm).toArray 57)).setRow w3.heap.size (cc ⟨cn, A3, k3⟩).toArray) ⟨cn, A3, k3⟩ hck.p
        rw [show ((w3.alloc (.cells (cc zm).toArray 57)).setRow w3.heap.size (cc ⟨cn, A3, k3⟩).toArray).heap.size = w3.heap.size + 1 by simp] at hone
        have Y := Lib.hid (And.intro D4 (And.intro hl4 (And.intro hq0 (And.intro hll (And.intro hz3 (And.intro hkm hone))))))
        clear D3 D4 hl3 hl4 hq0 hin hll hz3 hkm hone l3
        go_wp2_with (at_builtin; refine Stop.mk ?_)
        refine Stop.out ?_
        refine wpList_appC _ rfl (.tmp 40) (.tmp 42) rfl base A k d ks rfl Y.out.1.sp _ 1 1 [⟨cn, A3, k3⟩] rfl Y.out.2.2.2.2.2.2 rfl (fun y hy => by rcases List.mem_singleton.1 hy with rfl; exact ⟨hck, Y.out.2.1, Y.out.2.2.2.1⟩) Y.out.2.2.2.2.2.1 Y.out.2.2.2.2.1 ?_
        intro A4 k4 w5 ho4 hg4 hB4
        have bxr := Y.out.1.box1 hg4
        have c5 := (row_cells bxr 0).1
        have f5 := (row_cells bxr 0).2
        have hnx := X.out.1.next X.out.2.2.2.1.t.rise X.out.2.1 (by rw [X.out.2.2.1]; exact Y.out.2.2.1)
        rw [X.out.2.2.1] at hnx
        have hap : ∀ m ∈ ks, ∀ d ∈ qs2.flatten, d.p ≠ m.c.p := fun m hm d hd => hnx.apart m.c (List.mem_append_left _ (List.mem_map.2 ⟨m, hm, rfl⟩)) d hd
        have D5 := Y.out.1.spend hap ho4 hg4 hB4
        have Z := Lib.hid (And.intro D5 hnx)
        clear ho4 hg4 hB4 bxr hnx hap D5 hlu hlu2
        go_wp2_with (fail)
        go_roundw
        case rel =>
          refine ⟨k + 1, P', qs2, A4, k4, ks ++ [⟨cn, A3, k3⟩], by omega, by go_num, ?_, Z.out.1⟩
          rw [cns_append]
          exact Z.out.2
        case measure => simp [intOf]; omega
      · have dq : (q == 0) = false := by simpa using hq0
        have dq2 : (q != 0) = true := by simpa using hq0
        have bx := Boxes.only S.out.2.2.2.2.2.1 S.out.2.2.2.2.2.2 S.out.2.1.kinds D3.only
        have c0 := (row_cells bx.x 0).1
        have c1 := (row_cells bx.x 1).1
        have e0 := (row_cells bx.x 0).2
        have e1 := (row_cells bx.x 1).2
        have d0 := (row_cells bx.y 0).1
        have h0 := (row_cells bx.y 0).2
        have hst := X.out.1.stop X.out.2.1 (by rw [X.out.2.2.1]; exact hq0)
        rw [X.out.2.2.1] at hst
        have hr : doM ps xs (cns hs) = (ps, [], [], q) := (doM_take (by rw [hst]; exact hq0)).trans (by rw [hst])
        have Y := Lib.hid (And.intro D3 (And.intro bx (And.intro hq0 hr)))
        clear D3 bx hq0 hl3 hlc hst hr
        go_wp2_with (fail)
        exact do_fail Try.results15 S.out.1 S.out.2.1 S.out.2.2.2.2.1 B1.out.1.size hbase hgl hPl Y.out.2.1 Y.out.1.only Y.out.1.t Y.out.2.2.1 Y.out.2.2.2 rfl rfl
    · obtain rfl : k = n := by omega
      have d1 : decide ((k : Int) < (k : Int)) = false := decide_eq_false (by omega)
      have hdn := hT.done H.out.2.1.len
      have X := Lib.hid (And.intro hdn hD)
      clear hT hD hdn
      obtain ⟨w9, hw9⟩ : ∃ w9, w9 = wr := ⟨_, rfl⟩
      subst hw9
      go_wp2_with (fail)
      go_loopw [14, 15, 48] (fun _ _ i wr => ∃ (j : Nat) (Pj : Option Addr) (rs : List (List Cn)) (A2 : Option Addr) (d2 : Nat), j ≤ n2 ∧ i = .int .i64 j ∧ PutI qs (cns hs) j rs ∧ DoS wc wr base g P Pj rs A k d ks A2 j d2 ((cns hs).map Cn.p |>.take j)) (fun _ _ i _ => n2 - (intOf i).toNat)
      case atStart => exact ⟨0, Pk, qs, none, 0, by omega, rfl, PutI.start _ _, by simpa using X.out.2⟩
      case round =>
        obtain ⟨j, Pj, rs, A2, d2, hj, rfl, hI, hE⟩ := hrel
        have hnl : (cns hs).length = n2 := by rw [cns_length]; exact H.out.2.2.1.arg.len
        by_cases hlt2 : j < n2
        · have dd : decide ((j : Int) < (n2 : Int)) = true := decide_eq_true (by omega)
          have hsoft := Soft.tb S.out.2.1 hE.only
          have hfp := S.out.2.2.2.1.soft hsoft
          obtain ⟨ad, m, he, hm, hok, hbk, hc⟩ := hfp.arg.at_ hlt2
          have he : B2 = some ad := he
          subst he
          have hld := ld_coin_at wr (ad.add (j * 37)) m hok.c.p hc
          have sl := slot_self wr (.cells (cc zm).toArray 57) (cc m).toArray
          have hl2 := ld_coin_at _ ⟨wr.heap.size, 0, none⟩ m hok.c.p (coin_at (both_row wr (cc zm).toArray 57 (cc m).toArray))
          have PT := put_m (hE.t.below sl) m (hok.below sl) (fun h0 => ((hfp.lock m (List.mem_of_getElem? hm) h0).below sl).ne_g (hE.t.below sl))
          obtain ⟨rs2, q, hcq⟩ : ∃ rs2 q, putM rs m.c = (rs2, q) := ⟨_, _, rfl⟩
          simp only [hcq] at PT
          have PT := Lib.hid PT
          have V := Lib.hid (And.intro hI (And.intro hm (And.intro hcq (And.intro hE (And.intro sl hnl)))))
          have i1 : (0 : Int) ≤ (j : Int) := by omega
          have i2 : (j : Int) < (n2 : Int) := by omega
          have hokm := cc_ok hok.c.p
          clear hI hm hcq hE sl hc hsoft hfp hnl
          go_wp2_with (fail)
          refine PT.out.mono ?_
          rintro e w3 ⟨rfl, P', hT3, hk3, ho3⟩
          have D3 := (V.out.2.2.2.1.below V.out.2.2.2.2.1).move ho3 hk3 hT3
          have hl2 := ld_coin_at w3 ⟨wr.heap.size, 0, none⟩ m hok.c.p (coin_at ((ho3.boxU (V.out.2.2.2.1.t.below V.out.2.2.2.2.1).kinds (both_row wr (cc zm).toArray 57 (cc m).toArray) (by decide) (by decide))))
          have hl3 := ld_point_at w3 ⟨wr.heap.size, 0, none⟩ m hok.c.p (coin_at ((ho3.boxU (V.out.2.2.2.1.t.below V.out.2.2.2.2.1).kinds (both_row wr (cc zm).toArray 57 (cc m).toArray) (by decide) (by decide))))
          clear hT3 hk3 ho3 hld
          by_cases hq0 : q = 0
          · have dq : (q == 0) = true := by rw [hq0]; rfl
            have dq2 : (q != 0) = false := by rw [hq0]; rfl
            have l3 : Below w3.heap.size w3 (w3.alloc (.cells (pc m.c.p).toArray 54)) := (Below.refl _ _).alloc (Nat.le_refl _) _
            have D4 := D3.below l3
            have hb1 := (row_cells D3.box 1).1
            have hb2 := (row_cells D3.box 1).2
            have hz3 : base ≤ (w3.alloc (.cells (pc m.c.p).toArray 54)).heap.size := by have := D4.t.low; omega
            have hkm : j + 1 ≤ 1000000000 := by have := V.out.1.len; have := V.out.2.2.2.1.t.most; omega
            have hpk := pc_ok hok.c.p
            have hpo : ∀ y ∈ [m.c.p], y.ok := fun y hy => by rcases List.mem_singleton.1 hy with rfl; exact hok.c.p
            have Y := Lib.hid (And.intro D4 (And.intro hq0 (And.intro hz3 (And.intro hkm (one_rowQ w3 m.c.p hok.c.p)))))
            clear D3 D4 hq0 hz3 hkm l3
            go_wp2_with (at_builtin; refine Stop.mk ?_)
            refine Stop.out ?_
            refine wpList_appQ _ rfl (.tmp 60) (.tmp 63) rfl base A2 j d2 (((cns hs).map Cn.p).take j) rfl Y.out.1.md _ 1 1 [m.c.p] rfl Y.out.2.2.2.2 rfl hpo Y.out.2.2.2.1 Y.out.2.2.1 ?_
            intro A4 k4 w5 ho4 hg4 hB4
            have bxr := Y.out.1.box2 hg4
            have c5 := (row_cells bxr 1).1
            have f5 := (row_cells bxr 1).2
            have hmc : (cns hs)[j]? = some m.c := by unfold cns; rw [List.getElem?_map, V.out.2.1]; rfl
            have hnx := V.out.1.next hmc (by rw [V.out.2.2.1]; exact Y.out.2.1)
            rw [V.out.2.2.1] at hnx
            have D5 := Y.out.1.made ho4 hg4 hB4
            have htk : ((cns hs).map Cn.p).take (j + 1) = ((cns hs).map Cn.p).take j ++ [m.c.p] := take_next (by rw [List.getElem?_map, hmc]; rfl)
            rw [← htk] at D5
            have Z := Lib.hid (And.intro D5 hnx)
            clear ho4 hg4 hB4 bxr hnx D5 hb1 hb2 htk hmc
            go_wp2_with (fail)
            go_roundw
            case rel => exact ⟨j + 1, P', rs2, A4, k4, by omega, by go_num, Z.out.2, Z.out.1⟩
            case measure => simp [intOf]; omega
          · have dq : (q == 0) = false := by simpa using hq0
            have dq2 : (q != 0) = true := by simpa using hq0
            have bx := Boxes.only S.out.2.2.2.2.2.1 S.out.2.2.2.2.2.2 S.out.2.1.kinds D3.only
            have c0 := (row_cells bx.x 0).1
            have c1 := (row_cells bx.x 1).1
            have e0 := (row_cells bx.x 0).2
            have e1 := (row_cells bx.x 1).2
            have d0 := (row_cells bx.y 0).1
            have h0 := (row_cells bx.y 0).2
            have hmc : (cns hs)[j]? = some m.c := by unfold cns; rw [List.getElem?_map, V.out.2.1]; rfl
            have hst := V.out.1.stop hmc (by rw [V.out.2.2.1]; exact hq0)
            rw [V.out.2.2.1] at hst
            have hr : doM ps xs (cns hs) = (ps, [], [], q) := (doM_put X.out.1 (by rw [hst]; exact hq0)).trans (by rw [hst])
            have Y := Lib.hid (And.intro D3 (And.intro bx (And.intro hq0 hr)))
            clear D3 bx hq0 hst hr hmc hl2 hl3
            go_wp2_with (fail)
            exact do_fail Try.results15 S.out.1 S.out.2.1 S.out.2.2.2.2.1 B1.out.1.size hbase hgl hPl Y.out.2.1 Y.out.1.only Y.out.1.t Y.out.2.2.1 Y.out.2.2.2 rfl rfl
        · obtain rfl : j = n2 := by omega
          have d2 : decide ((j : Int) < (j : Int)) = false := decide_eq_false (by omega)
          have hpd := hI.done hnl
          have ht : ((cns hs).map Cn.p).take j = (cns hs).map Cn.p := List.take_of_length_le (by rw [List.length_map, hnl]; exact Nat.le_refl _)
          rw [ht] at hE
          have bx := Boxes.only S.out.2.2.2.2.2.1 S.out.2.2.2.2.2.2 S.out.2.1.kinds hE.only
          have c0 := (row_cells bx.x 0).1
          have c1 := (row_cells bx.x 1).1
          have e0 := (row_cells bx.x 0).2
          have e1 := (row_cells bx.x 1).2
          have d0 := (row_cells bx.y 0).1
          have h0 := (row_cells bx.y 0).2
          have z0 := (row_cells hE.box 0).1
          have z1 := (row_cells hE.box 1).1
          have Y := Lib.hid (And.intro hE (And.intro bx (doM_done X.out.1 hpd)))
          clear hE bx hpd ht hI hnl
          go_wp2_with (fail)
          exact do_good Try.results15 S.out.1 Y.out.2.1 Y.out.1 Y.out.2.2 rfl rfl
end Go.Proofs.Ytofclanljhfkiaa
/- slices.Backward over coins: what its iterator hands over. -/
namespace Go.Proofs.Ytofclanljhfkiaa
open Go.RowKit Go.Proofs En Co
set_option linter.unusedVariables false
set_option linter.unusedSimpArgs false
set_option maxRecDepth 20000
attribute [local go_sem ↓] ld_coin_eq
attribute [local go_sem] Oper.semAt_some

/-- what the iterator reads is kept: its box, the row of coins -/
structure KpB (b : Nat) (A : Option Addr) (W W' : World) : Prop where
  size : W.heap.size ≤ W'.heap.size
  box : W'.heap[b]? = W.heap[b]?
  row : ∀ k, blk A = some k → W'.heap[k]? = W.heap[k]?
theorem KpB.refl (b : Nat) (A : Option Addr) (W : World) : KpB b A W W := ⟨Nat.le_refl _, rfl, fun _ _ => rfl⟩
theorem KpB.trans {b : Nat} {A : Option Addr} {W1 W2 W3 : World} (h : KpB b A W1 W2) (k : KpB b A W2 W3) : KpB b A W1 W3 := ⟨Nat.le_trans h.size k.size, k.box.trans h.box, fun j hj => (k.row j hj).trans (h.row j hj)⟩
theorem KpB.put {b : Nat} {A : Option Addr} {w : World} (hb : b < w.heap.size) (hA : ∀ k, blk A = some k → k < w.heap.size) (W : World) (l : Nat) (o o' : Obj) (hl : w.heap.size ≤ l) (h : W.heap[l]? = some o) (_ : o.isCells = false) (_ : o.isWalk = false) : KpB b A W (W.putObj l o') :=
  ⟨(grownBy_putObj' W l o').size, World.putObj_heap_other (by omega), fun k hk => World.putObj_heap_other (by have := hA k hk; omega)⟩
theorem KpB.rd {b n size : Nat} {A : Option Addr} {W W' : World} {cs : List Value} (k : KpB b A W W') (h : Rd W size A n cs) : Rd W' size A n cs :=
  h.keep k.size fun j hj ad e1 e2 => k.row j (by rw [e1, e2]; rfl)

/-- what yield is handed: a number and a coin of the row -/
abbrev BackA (hs : List Cm) := { x : Int × Cm // x.2 ∈ hs }
abbrev backEnc {hs : List Cm} (x : BackA hs) : Array Value := #[.int .i64 x.1.1, .agg (cc x.1.2).toArray]
def backOf {hs : List Cm} (xs : List (BackA hs)) : List Cm := xs.map fun x => x.1.2

set_option maxRecDepth 100000 in
set_option maxHeartbeats 2000000 in
theorem back_stops (n : Nat) (hn : 1 ≤ n) (b : Nat) (A : Option Addr) (m c : Nat) (hs : List Cm) (w : World) (hb : b < w.heap.size) (hbox : w.heap[b]? = some (.cells #[.slice A m c] 22 (0, 0))) (hrd : Rd w 37 A m (pcs hs)) (hok : ∀ x ∈ hs, x.c.p.ok) (hl : hs.length = m) (hA : ∀ k, blk A = some k → k < w.heap.size) (hm : m ≤ 9223372036854775807) :
    SeqStopsK Fence.wide n Try.prog 91 #[.pointer (some ⟨b, 0, none⟩)] (fun x : BackA hs => backEnc x) (KpB b A) (fun xs => backOf xs = hs.reverse) (fun pre => backOf pre <+: hs.reverse) m w := by
  intro l J Jx W hW hJ hJx hY h0
  have kp0 : KpB b A w W := ⟨hW.size, hW.block b hb, fun k hk => hW.block k (hA k hk)⟩
  have hboxW := kp0.box.trans hbox
  have hrdW := kp0.rd hrd
  have hc0 : W.cell? ⟨b, 0, none⟩ = some (.slice A m c) := (row_cells hboxW 0).1
  have hw1 : IntKind.i64.wrap ((m : Int) - 1) = (m : Int) - 1 := wrap_i64s (by omega)
  refine callsIn_of_wp Try.func91 rfl trivial ?_ rfl
  simp only [Try.ntmps91, List.size_toArray, List.length_cons, List.length_nil, Nat.reduceAdd, Nat.reduceSub, Array.replicate_succ, Array.replicate_zero, List.push_toArray, List.append_toArray, List.nil_append, List.cons_append]
  gi_wp2
  gi_loopw [3] (fun s wr => ∃ (i : Int) (k : Nat) (pre : List (BackA hs)), k ≤ m ∧ i + 1 = k ∧ s = .int .i64 i ∧ backOf pre = (hs.drop k).reverse ∧ J pre wr ∧ KpB b A W wr) (fun s _ => (intOf s + 1).toNat)
  case atStart => exact ⟨(m : Int) - 1, m, [], Nat.le_refl _, by omega, rfl, by rw [List.drop_of_length_le (by omega)]; rfl, h0, KpB.refl _ _ _⟩
  case round =>
    obtain ⟨i, k, pre, hk, hi, rfl, hpre, hJs, hkp⟩ := hrel
    have hc1 : wr.cell? ⟨b, 0, none⟩ = some (.slice A m c) := (row_cells (hkp.box.trans hboxW) 0).1
    by_cases h00 : k = 0
    · subst h00
      have d1 : decide (i ≥ 0) = false := decide_eq_false (by omega)
      have hpre : backOf pre = hs.reverse := by simpa using hpre
      gi_wp2
      go_end0
      exact ⟨⟨_, rfl⟩, .inl ⟨pre, hpre, hJs⟩⟩
    · obtain ⟨j, rfl⟩ : ∃ j, k = j + 1 := ⟨k - 1, by omega⟩
      obtain rfl : i = (j : Int) := by omega
      have d1 : decide ((j : Int) ≥ 0) = true := decide_eq_true (by omega)
      have hj : j < m := by omega
      obtain ⟨ad, rfl, hbk, hcx⟩ := (hkp.rd hrdW).at_ hj
      have hx : hs[j]? = some hs[j] := List.getElem?_eq_getElem (by omega)
      have hxk := hok _ (List.getElem_mem (by omega : j < hs.length))
      obtain ⟨x, hxe⟩ : ∃ x, hs[j] = x := ⟨_, rfl⟩
      rw [hxe] at hx hxk
      have hxm : x ∈ hs := List.mem_of_getElem? hx
      have hld := ld_coin_at wr (ad.add (j * 37)) x hxk (fun q v hv => by
        have hq := (List.getElem?_eq_some_iff.1 hv).1
        rw [cc_length hxk] at hq
        rw [add_add, hcx q hq, pcs_get hok hx hq]
        exact hv)
      have hlen : pre.length < m := by
        have := congrArg List.length hpre
        simp [backOf] at this
        omega
      obtain ⟨fn, tmps, assign, body, hy, hR⟩ := hY pre ⟨((j : Int), x), hxm⟩ wr hJs hlen
      unfold backEnc at hy
      have hnx : backOf (pre ++ [(⟨((j : Int), x), hxm⟩ : BackA hs)]) = (hs.drop j).reverse := by
        unfold backOf at *
        rw [List.map_append, hpre, drop_at hx, List.reverse_cons]
        rfl
      have i1 : (0 : Int) ≤ (j : Int) := by omega
      have i2 : (j : Int) < (m : Int) := by omega
      have hw2 : IntKind.i64.wrap ((j : Int) - 1) = (j : Int) - 1 := wrap_i64s (by omega)
      have X := Lib.hid (And.intro hkp (And.intro hnx hpre))
      clear hkp hnx hpre hcx hx hxe hlen hi hl
      gi_wp2
      refine hR.mono ?_
      rintro e W3 (⟨rfl, hJ3, hk3⟩ | ⟨rfl, hJx3⟩)
      · have Z := Lib.hid (And.intro hJ3 hk3)
        clear hJ3 hk3 hR hy
        gi_wp2
        go_roundw
        case rel => exact ⟨(j : Int) - 1, j, _, by omega, by omega, by first | rfl | go_num, X.out.2.1, Z.out.1, X.out.1.trans Z.out.2⟩
        case measure => simp [intOf]
      · have Z := Lib.hid hJx3
        clear hJx3 hR hy
        gi_wp2
        refine bodyPost_ret (results_none rfl _ _ _) rfl ?_
        refine ⟨⟨_, rfl⟩, .inr ⟨_, ?_, Z.out⟩⟩
        rw [X.out.2.1]
        exact List.reverse_prefix.2 (List.drop_suffix _ _)
end Go.Proofs.Ytofclanljhfkiaa
