/- Joined texts: UnJ, UnV, UnW. -/
import Derived.Test.YtofclanljhfkiaaM26
import Derived.Test.YtofclanljhfkiaaM29
/- The reference's Put of an undo. -/
namespace Go.Proofs.Ytofclanljhfkiaa
open Go.RowKit Go.Proofs En Co
set_option linter.unusedVariables false
set_option linter.unusedSimpArgs false
set_option maxRecDepth 20000
attribute [local go_sem ↓] ld_point_eq ld_coin_eq ld_hash_eq st_point_eq st_coin_eq bd_point_eq bd_coin_eq eq_point_eq ne_point_eq al_coin_eq al_point_eq
attribute [local go_sem] ld_point_run ld_coin_run ld_hash_run st_point_run st_coin_run bd_point_zero bd_coin_zero bd_point_of bd_coin_of hash_at rowIs_34 rowIs_37 rowIs_both hasAt_both cellsAt_both eq_point_run ne_point_run guard_pt al_coin_run al_point_run al_coin_row al_point_row nil_bytes nil_coins


set_option maxRecDepth 20000 in
set_option maxHeartbeats 4000000 in
theorem rputU_any {w : World} {A : Option Addr} {n c : Nat} {hs : List Cm} (hp : ArgP w A n c hs) {base : Nat} {B : Option Addr} {n2 c2 : Nat} {xs : List Pt} (hq : FirmQ w base B n2 c2 xs) :
    Calls Try.prog 47 #[.agg #[.slice A n c, .slice B n2 c2]] w fun e w' => ∃ D d, e = .returned (.tuple #[.slice D (putUF (cns hs) xs).1.length d, .int .i64 (putUF (cns hs) xs).2]) ∧ OwnB w' w.heap.size D (putUF (cns hs) xs).1.length d (putUF (cns hs) xs).1 ∧ Below w.heap.size w w' := by
  have r0 : (w.alloc (.cells #[.slice A n c, .slice B n2 c2] 25)).heap[w.heap.size]? = some (.cells #[.slice A n c, .slice B n2 c2] 25 (0, 0)) := heap_alloc_new w _
  have b0 : Below w.heap.size w (w.alloc (.cells #[.slice A n c, .slice B n2 c2] 25)) := (Below.refl _ _).alloc (Nat.le_refl _) _
  have hncap : n ≤ c := hp.cap
  have hmax : c ≤ 9223372036854775807 := by have := hp.max; simp only [maxLen] at this; omega
  have hn2cap := hq.cap
  have hmax2 : c2 ≤ 9223372036854775807 := by have := hq.max; simp only [maxLen] at this; omega
  have hnl : (cns hs).length = n := by rw [cns_length]; exact hp.len
  have hnl2 := hq.len
  have z0 := (row_cells r0 0).1
  have z1 := (row_cells r0 1).1
  have HL := Lib.hid (And.intro hnl hnl2)
  have H := Lib.hid (And.intro hp (And.intro hq (And.intro r0 b0)))
  clear hp hq r0 b0 hnl hnl2
  go_enter Try.func47, Try.ntmps47
  by_cases hbn : 256 < n
  · have d1 : decide ((n : Int) > 256) = true := decide_eq_true (by omega)
    have d2 : decide ((n2 : Int) > 256) = decide ((n2 : Int) > 256) := rfl
    have hr := putUF_many (cs := cns hs) (xs := xs) (.inl (by rw [HL.out.1]; exact hbn))
    clear d2
    go_wp2_with (fail)
    go_ret2
    rw [hr]
    exact ⟨none, 0, rfl, OwnN.nil _ _ _ _, H.out.2.2.2⟩
  · by_cases hbn2 : 256 < n2
    · have d1 : decide ((n : Int) > 256) = false := decide_eq_false (by omega)
      have d2 : decide ((n2 : Int) > 256) = true := decide_eq_true (by omega)
      have hr := putUF_many (cs := cns hs) (xs := xs) (.inr (by rw [HL.out.2]; exact hbn2))
      go_wp2_with (fail)
      go_ret2
      rw [hr]
      exact ⟨none, 0, rfl, OwnN.nil _ _ _ _, H.out.2.2.2⟩
    · have d1 : decide ((n : Int) > 256) = false := decide_eq_false (by omega)
      have d2 : decide ((n2 : Int) > 256) = false := decide_eq_false (by omega)
      have hsm : ¬ (256 < (cns hs).length ∨ 256 < xs.length) := by rw [HL.out.1, HL.out.2]; omega
      have wn : IntKind.u64.wrap (n : Int) = n := wrap_u64 (by omega)
      have wn2 : IntKind.u64.wrap (n2 : Int) = n2 := wrap_u64 (by omega)
      obtain ⟨c0, hc0⟩ : ∃ c0, countF n = c0 := ⟨_, rfl⟩
      have c09 := countF_len9 n
      rw [hc0] at c09
      have C0 := Lib.hid hc0
      clear hc0
      go_wp2_with (fail)
      refine (count_isr _ (by omega) C0.out).mono ?_
      rintro e w1 ⟨A1, k1, rfl, ho1, hb1⟩
      have y0 := (row_cells (kept H.out.2.2.1 hb1) 0).1
      have V0K := Lib.hid hb1
      have V0 := Lib.hid (And.intro (OwnN.mono ho1 H.out.2.2.2.size) (bThen H.out.2.2.2 hb1))
      clear ho1 hb1 z0 z1
      go_wp2_with (fail)
      go_loopw [4, 5, 6, 7] (fun v i _ _ wr => ∃ j : Nat, j ≤ n ∧ i = .int .i64 j ∧ (∃ A k q out, v = .slice A q k ∧ out = c0 ++ coinsF ((cns hs).take j) ∧ OwnB wr w.heap.size A q k out) ∧ allMay ((cns hs).take j) = true ∧ Below w.heap.size w wr ∧ wr.heap[w.heap.size]? = some (.cells #[.slice A n c, .slice B n2 c2] 25 (0, 0))) (fun _ i _ _ _ => n - (intOf i).toNat)
      case atStart => exact ⟨0, by omega, rfl, ⟨A1, k1, _, c0, rfl, by simp [coinsF], V0.out.1⟩, rfl, V0.out.2, kept H.out.2.2.1 V0K.out⟩
      case round =>
        clear y0
        obtain ⟨j, hj, rfl, ⟨A2, k2, q, out, rfl, hout, ho⟩, ham, hbel, hbox⟩ := hrel
        have y0 := (row_cells hbox 0).1
        by_cases hlt : j < n
        · have d3 : decide ((j : Int) < (n : Int)) = true := decide_eq_true (by omega)
          obtain ⟨ad, m, rfl, hm, hok, hbk, hc⟩ := (H.out.1.below hbel).at_ hlt
          have hq' : q ≤ 9 + 200 * 256 := by
            have h3 := ho.len
            rw [hout, List.length_append] at h3
            have h6 : (coinsF ((cns hs).take j)).length ≤ 200 * ((cns hs).take j).length := coinsF_len fun c hc => by
              obtain ⟨m, hm, rfl⟩ := List.mem_map.1 (List.mem_of_mem_take hc)
              exact (H.out.1.ok m hm).c
            have h7 : ((cns hs).take j).length ≤ j := List.length_take_le _ _
            omega
          have hld := ld_coin_at wr (ad.add (j * 37)) m hok.c.p hc
          have hzr := hbel.size
          have hokm := cc_ok hok.c.p
          have sl : Below wr.heap.size wr wr := Below.refl _ _
          obtain ⟨pb, pq, hpb⟩ : ∃ pb pq, putCF m.c = (pb, pq) := ⟨_, _, rfl⟩
          have hpl := putCF_len hok.c.p hpb
          have hcj : (cns hs)[j]? = some m.c := by unfold cns; rw [List.getElem?_map, hm]; rfl
          have hcn : coinsF ((cns hs).take (j + 1)) = coinsF ((cns hs).take j) ++ pb := by rw [coinsF_next hcj, hpb]
          have PC := Lib.hid (rput06_is (hok.below sl) hpb)
          have i1 : (0 : Int) ≤ (j : Int) := by omega
          have i2 : (j : Int) < (n : Int) := by omega
          have V := Lib.hid (And.intro hok (And.intro hpb (And.intro hcn (And.intro hout (And.intro (OwnN.below ho sl) (And.intro (bThen hbel sl) (And.intro hcj (And.intro ham (kept hbox sl)))))))))
          clear hc hm hok hpb hcn hout ho hbel ham hcj hbox sl
          go_wp2_with (fail)
          refine PC.out.mono ?_
          rintro e w5 ⟨A5, k5, rfl, ho5, hb5⟩
          have rb5 := kept V.out.2.2.2.2.2.2.2.2 hb5
          have hbel5 := bThen V.out.2.2.2.2.2.1 hb5
          have o5 := OwnN.below V.out.2.2.2.2.1 hb5
          cases hmay : mayO m.c.v m.c.l with
          | false =>
            have hpq : pq = 2 := by have := V.out.2.1; rw [putCF_err hmay] at this; exact (Prod.mk.inj this).2.symm
            have dq : (pq == 0) = false := by rw [hpq]; rfl
            have dq2 : (pq != 0) = true := by rw [hpq]; rfl
            have hr := putUF_not hsm V.out.2.2.2.2.2.2.1 hmay
            have HQ := Lib.hid hpq
            clear hpq hmay
            go_wp2_with (fail)
            go_ret2
            rw [hr]
            exact ⟨none, 0, rfl, OwnN.nil _ _ _ _, hbel5⟩
          | true =>
            have hpq : pq = 0 := by have := V.out.2.1; rw [putCF_may hmay] at this; exact (Prod.mk.inj this).2.symm
            have dq : (pq == 0) = true := by rw [hpq]; rfl
            have dq2 : (pq != 0) = false := by rw [hpq]; rfl
            have ham2 := allMay_next V.out.2.2.2.2.2.2.1 V.out.2.2.2.2.2.2.2.1 hmay
            have hz5 := hbel5.size
            clear hpq hmay
            go_wp2_with (at_builtin; refine Stop.mk ?_)
            refine Stop.out ?_
            refine wpList_appN _ rfl (.tmp 42) (.tmp 43) _ rfl w.heap.size 5 .u8 1 Try.underlying40 inf_b A2 q k2 out rfl o5 A5 pb.length k5 pb rfl (OwnN.rd ho5) (by unfold maxLen; omega) (by omega) hz5 ?_
            intro A6 k6 w6 ho6 hg6 _
            have hb6 : Below w.heap.size w w6 := hbel5.grown hg6 hz5 (fun y hy => (OwnN.lt o5 y hy).1)
            have rb6 := (hg6.block _ (Array.getElem?_eq_some_iff.1 rb5).1 (fun e => Own.ne_block o5 rb5 (by decide) e.symm)).trans rb5
            have W := Lib.hid (And.intro ho6 (And.intro hb6 (And.intro ham2 rb6)))
            clear ho6 hb6 hg6 o5 hbel5 hb5 ho5 hz5 hld hokm ham2 rb5 rb6
            go_wp2_with (fail)
            go_roundw
            case rel => exact ⟨j + 1, by omega, by go_num, ⟨A6, k6, _, _, rfl, by rw [V.out.2.2.1, V.out.2.2.2.1, List.append_assoc], W.out.1⟩, W.out.2.2.1, W.out.2.1, W.out.2.2.2⟩
            case measure => simp [intOf]; omega
        · obtain rfl : j = n := by omega
          have d3 : decide ((j : Int) < (j : Int)) = false := decide_eq_false (by omega)
          have e : (cns hs).take j = cns hs := List.take_of_length_le (by rw [HL.out.1]; exact Nat.le_refl _)
          rw [e] at hout ham
          have hq' : q ≤ 9 + 200 * 256 := by
            have h3 := ho.len
            rw [hout, List.length_append] at h3
            have h6 : (coinsF (cns hs)).length ≤ 200 * (cns hs).length := coinsF_len fun c hc => by
              obtain ⟨m, hm, rfl⟩ := List.mem_map.1 hc
              exact (H.out.1.ok m hm).c
            have h7 := HL.out.1
            omega
          obtain ⟨cx, hcx⟩ : ∃ cx, countF n2 = cx := ⟨_, rfl⟩
          have cx9 := countF_len9 n2
          rw [hcx] at cx9
          have y1 := (row_cells hbox 1).1
          have V := Lib.hid (And.intro hout (And.intro ham (And.intro ho (And.intro hbel (And.intro hcx hbox)))))
          have C2 := Lib.hid (count_isr wr (by omega) hcx)
          clear hout ham ho hbel hcx hbox e
          go_wp2_with (fail)
          refine C2.out.mono ?_
          rintro e w2 ⟨A3, k3, rfl, ho3, hb3⟩
          have o3 := OwnN.below V.out.2.2.1 hb3
          have hbel3 := bThen V.out.2.2.2.1 hb3
          have hz3 := hbel3.size
          have rb3 := kept V.out.2.2.2.2.2 hb3
          go_wp2_with (at_builtin; refine Stop.mk ?_)
          refine Stop.out ?_
          refine wpList_appN _ rfl (.tmp 45) (.tmp 50) _ rfl w.heap.size 5 .u8 1 Try.underlying40 inf_b A2 q k2 out rfl o3 A3 cx.length k3 cx rfl (OwnN.rd ho3) (by unfold maxLen; omega) (by omega) hz3 ?_
          intro A4 k4 w4 ho4 hg4 _
          have hb4 : Below w.heap.size w w4 := hbel3.grown hg4 hz3 (fun y hy => (OwnN.lt o3 y hy).1)
          have rb4 := (hg4.block _ (Array.getElem?_eq_some_iff.1 rb3).1 (fun e => Own.ne_block o3 rb3 (by decide) e.symm)).trans rb3
          have y2 := (row_cells rb4 1).1
          have W := Lib.hid (And.intro ho4 (And.intro hb4 rb4))
          clear ho3 hb3 o3 hbel3 hz3 rb3 ho4 hg4 hb4 rb4 y1
          go_wp2_with (fail)
          go_loopw [4, 8] (fun v i wr => ∃ t : Nat, t ≤ n2 ∧ i = .int .i64 t ∧ (∃ A k r o2, v = .slice A r k ∧ o2 = out ++ cx ++ ptsF (xs.take t) ∧ OwnB wr w.heap.size A r k o2) ∧ Below w.heap.size w wr ∧ wr.heap[w.heap.size]? = some (.cells #[.slice A j c, .slice B n2 c2] 25 (0, 0))) (fun _ i _ => n2 - (intOf i).toNat)
          case atStart => exact ⟨0, by omega, rfl, ⟨A4, k4, _, _, rfl, by simp [ptsF], W.out.1⟩, W.out.2.1, W.out.2.2⟩
          case round =>
            clear y2
            obtain ⟨t, ht, rfl, ⟨A7, k7, r, o2, rfl, ho2e, ho7⟩, hb7, hbox⟩ := hrel
            have y1 := (row_cells hbox 1).1
            have hr : r ≤ 9 + 200 * 256 + 9 + 38 * 256 := by
              have h3 := ho7.len
              have h4 := V.out.2.2.1.len
              rw [ho2e, List.length_append, List.length_append] at h3
              have h6 := ptsF_len (xs := xs.take t) fun p hp => H.out.2.1.ok p (List.mem_of_mem_take hp)
              have h7 : (xs.take t).length ≤ t := List.length_take_le _ _
              omega
            by_cases htl : t < n2
            · have d4 : decide ((t : Int) < (n2 : Int)) = true := decide_eq_true (by omega)
              obtain ⟨ad, p, rfl, hp, hpo, hbk, hcp⟩ := (H.out.2.1.below hb7).at_ htl
              have hld := ld_point_of wr (ad.add (t * 34)) p hpo hcp
              have hokp := pc_ok hpo
              have sl : Below wr.heap.size wr wr := Below.refl _ _
              have hpn : ptsF (xs.take (t + 1)) = ptsF (xs.take t) ++ putPF p := ptsF_next hp
              have hpl := putPF_length hpo
              have PP := Lib.hid (rputPoint_any p hpo wr)
              have i1 : (0 : Int) ≤ (t : Int) := by omega
              have i2 : (t : Int) < (n2 : Int) := by omega
              have Z := Lib.hid (And.intro hpn (And.intro ho2e (And.intro (OwnN.below ho7 sl) (And.intro (bThen hb7 sl) (And.intro (kept hbox sl) hpl)))))
              clear hpn ho2e ho7 hb7 hcp hp hbox sl hpl
              go_wp2_with (fail)
              refine PP.out.mono ?_
              rintro e w5 ⟨A5, k5, rfl, ho5, hb5⟩
              have o5 := OwnN.below Z.out.2.2.1 hb5
              have hbel5 := bThen Z.out.2.2.2.1 hb5
              have hz5 := hbel5.size
              have rb5 := kept Z.out.2.2.2.2.1 hb5
              go_wp2_with (at_builtin; refine Stop.mk ?_)
              refine Stop.out ?_
              refine wpList_appN _ rfl (.tmp 59) (.tmp 65) _ rfl w.heap.size 5 .u8 1 Try.underlying40 inf_b A7 r k7 o2 rfl o5 A5 38 k5 (putPF p) rfl (OwnN.rd ho5) (by unfold maxLen; omega) (by omega) hz5 ?_
              intro A6 k6 w6 ho6 hg6 _
              have hb6 : Below w.heap.size w w6 := hbel5.grown hg6 hz5 (fun y hy => (OwnN.lt o5 y hy).1)
              have rb6 := (hg6.block _ (Array.getElem?_eq_some_iff.1 rb5).1 (fun e => Own.ne_block o5 rb5 (by decide) e.symm)).trans rb5
              have W2 := Lib.hid (And.intro ho6 (And.intro hb6 rb6))
              clear ho6 hb6 hg6 o5 hbel5 hb5 ho5 hz5 hld rb5 rb6
              go_wp2_with (fail)
              go_roundw
              case rel => exact ⟨t + 1, by omega, by go_num, ⟨A6, k6, _, _, rfl, by rw [Z.out.1, Z.out.2.1, List.append_assoc (out ++ cx)], W2.out.1⟩, W2.out.2.1, W2.out.2.2⟩
              case measure => simp [intOf]; omega
            · obtain rfl : t = n2 := by omega
              have d4 : decide ((t : Int) < (t : Int)) = false := decide_eq_false (by omega)
              have e : xs.take t = xs := List.take_of_length_le (by rw [HL.out.2]; exact Nat.le_refl _)
              rw [e] at ho2e
              have hf : putUF (cns hs) xs = (o2, 0) := by
                rw [putUF_all hsm V.out.2.1, ho2e, V.out.1, HL.out.1, HL.out.2, C0.out, V.out.2.2.2.2.1]
              have hlo := ho7.len
              have Z := Lib.hid (And.intro hf (And.intro ho7 (And.intro hb7 hlo)))
              clear ho2e e hf ho7 hb7 hlo hbox hr
              go_wp2_with (fail)
              go_ret2
              rw [Z.out.1]
              dsimp only
              rw [Z.out.2.2.2]
              exact ⟨A7, k7, rfl, Z.out.2.1, Z.out.2.2.1⟩
end Go.Proofs.Ytofclanljhfkiaa
/- The reference's Read of an undo. -/
namespace Go.Proofs.Ytofclanljhfkiaa
open Go.RowKit Go.Proofs En Co
set_option linter.unusedVariables false
set_option linter.unusedSimpArgs false
set_option maxRecDepth 20000
attribute [local go_sem ↓] ld_point_eq ld_coin_eq ld_hash_eq st_point_eq st_coin_eq bd_point_eq bd_coin_eq eq_point_eq ne_point_eq al_coin_eq al_point_eq bs_coin_eq bs_point_eq
attribute [local go_sem] ld_point_run ld_coin_run ld_hash_run st_point_run st_coin_run bd_point_zero bd_coin_zero bd_point_of bd_coin_of hash_at rowIs_34 rowIs_37 rowIs_both hasAt_both cellsAt_both eq_point_run ne_point_run guard_pt al_coin_run al_point_run al_coin_row al_point_row nil_bytes nil_coins bs_coin_run bs_point_run

/-- an undo that is being read: the result's box, the undo's -/
structure RdU (w wr : World) (X : Nat) (B : Option Addr) (j d : Nat) (hs : List Cm) (B2 : Option Addr) (j2 d2 : Nat) (xs : List Pt) : Prop where
  bel : Below w.heap.size w wr
  res : wr.heap[X]? = some (.cells #[.slice none 0 0, .slice none 0 0] 25 (0, 0))
  box : wr.heap[X + 1]? = some (.cells #[.slice B j d, .slice B2 j2 d2] 25 (0, 0))
  sp : OwnP wr w.heap.size B j d hs
  md : OwnQ wr w.heap.size B2 j2 d2 xs
  le : w.heap.size ≤ X
section
variable {w wr w6 : World} {X j d j2 d2 d' : Nat} {B B2 B' : Option Addr} {hs : List Cm} {xs : List Pt} {m : Cm} {p : Pt}
theorem RdU.below (h : RdU w wr X B j d hs B2 j2 d2 xs) (hb : Below wr.heap.size wr w6) : RdU w w6 X B j d hs B2 j2 d2 xs :=
  ⟨bThen h.bel hb, kept h.res hb, kept h.box hb, h.sp.below hb, h.md.below hb, h.le⟩
theorem RdU.box1 (h : RdU w wr X B j d hs B2 j2 d2 xs) (hg : wr.grownBy w6 (blk B)) : w6.heap[X + 1]? = some (.cells #[.slice B j d, .slice B2 j2 d2] 25 (0, 0)) :=
  ((Spare.grow h.sp.row hg).block _ _ _ h.box (by decide)).trans h.box
theorem RdU.box2 (h : RdU w wr X B j d hs B2 j2 d2 xs) (hg : wr.grownBy w6 (blk B2)) : w6.heap[X + 1]? = some (.cells #[.slice B j d, .slice B2 j2 d2] 25 (0, 0)) :=
  ((Spare.grow h.md.row hg).block _ _ _ h.box (by decide)).trans h.box
theorem RdU.coin (h : RdU w wr X B j d hs B2 j2 d2 xs) (ho : OwnP w6 w.heap.size B' (j + 1) d' (hs ++ [m])) (hg : wr.grownBy w6 (blk B)) : RdU w (w6.setCell ⟨X + 1, 0, none⟩ (.slice B' (j + 1) d')) X B' (j + 1) d' (hs ++ [m]) B2 j2 d2 xs := by
  have s1 := Spare.grow h.sp.row hg
  have s2 := Spare.set (h.box1 hg) 0 (.slice B' (j + 1) d')
  refine ⟨(h.bel.grown hg h.bel.size (fun k hk => (Own.lt h.sp.row k hk).1)).setCell (by have := h.le; show _ ≤ X + 1; omega) _, ?_, ?_, ho.spare s2 (by decide) (by decide), (h.md.spare s1 (by decide)).spare s2 (by decide), h.le⟩
  · exact (Below.heap_setCell _ _ _ _ (show X ≠ X + 1 by omega)).trans ((s1.block _ _ _ h.res (by decide)).trans h.res)
  · have := heap_setCell_same _ _ 0 _ _ (.slice B' (j + 1) d') (h.box1 hg)
    simpa using this
theorem RdU.point (h : RdU w wr X B j d hs B2 j2 d2 xs) (ho : OwnQ w6 w.heap.size B' (j2 + 1) d' (xs ++ [p])) (hg : wr.grownBy w6 (blk B2)) : RdU w (w6.setCell ⟨X + 1, 1, none⟩ (.slice B' (j2 + 1) d')) X B j d hs B' (j2 + 1) d' (xs ++ [p]) := by
  have s1 := Spare.grow h.md.row hg
  have s2 := Spare.set (h.box2 hg) 1 (.slice B' (j2 + 1) d')
  refine ⟨(h.bel.grown hg h.bel.size (fun k hk => (Own.lt h.md.row k hk).1)).setCell (by have := h.le; show _ ≤ X + 1; omega) _, ?_, ?_, (h.sp.spare s1 (by decide) (by decide)).spare s2 (by decide) (by decide), ho.spare s2 (by decide), h.le⟩
  · exact (Below.heap_setCell _ _ _ _ (show X ≠ X + 1 by omega)).trans ((s1.block _ _ _ h.res (by decide)).trans h.res)
  · have := heap_setCell_same _ _ 1 _ _ (.slice B' (j2 + 1) d') (h.box2 hg)
    simpa using this
end


set_option maxRecDepth 20000 in
set_option maxHeartbeats 8000000 in
theorem rreadU_any {w : World} {A : Option Addr} {n c : Nat} {b : List Int} (hb : Arg w A n c b) :
    Calls Try.prog 48 #[.slice A n c] w fun e w' => ReadUE w (readUF b) e w' := by
  have hlen := hb.rd.len
  have hn := hb.len
  have b0 : Below w.heap.size w ((w.alloc (.cells #[.slice none 0 0, .slice none 0 0] 25)).alloc (.cells #[.slice none 0 0, .slice none 0 0] 25)) := belA ((Below.refl _ _).alloc (Nat.le_refl _) _) _ (Nat.le_refl _)
  have u0 : RdU w ((w.alloc (.cells #[.slice none 0 0, .slice none 0 0] 25)).alloc (.cells #[.slice none 0 0, .slice none 0 0] 25)) w.heap.size none 0 0 [] none 0 0 [] := by
    obtain ⟨h1, h2⟩ := two_box w (.cells #[.slice none 0 0, .slice none 0 0] 25) (.cells #[.slice none 0 0, .slice none 0 0] 25)
    exact ⟨b0, h1, h2, OwnP.nil _ _, OwnQ.nil _ _, Nat.le_refl _⟩
  obtain ⟨v, x, q1, hgc⟩ : ∃ v x q1, getCountF b 0 = (v, x, q1) := ⟨_, _, _, rfl⟩
  have C := Lib.hid (rgetCount_is (hb.below b0) (by omega) hgc)
  have HB := Lib.hid (And.intro hb (And.intro hgc u0))
  have HL := Lib.hid hlen
  clear hb u0 b0 hlen
  go_enter Try.func48, Try.ntmps48
  go_wp2_with (fail)
  refine C.out.mono ?_
  rintro e w1 ⟨rfl, hb1⟩
  have u1 := Lib.hid (HB.out.2.2.below hb1)
  clear hb1
  by_cases hq1 : q1 = 0
  · subst hq1
    obtain ⟨k1, k2, k3, k4, k5⟩ := getCountF_ok HB.out.1.isB (at_ := 0) (by rw [hgc])
    rw [hgc] at k1 k2 k4 k5
    simp only at k1 k2 k4 k5
    obtain ⟨N, rfl⟩ := Int.eq_ofNat_of_zero_le k1
    by_cases hbig : 256 < (N : Int)
    · have d1 : decide ((N : Int) > 256) = true := decide_eq_true hbig
      have hr : readUF b = ([], [], 3) := readUF_bad1 (show listC b 0 = ([], 0, 3) from listG_many (get := getCF b) hgc hbig) (by decide)
      clear hgc
      have rb := (u1.out).res
      have c0 := (row_cells rb 0).1
      have c1 := (row_cells rb 1).1
      have e0 := (row_cells rb 0).2
      have e1 := (row_cells rb 1).2
      have ZB := Lib.hid (And.intro rb (And.intro (u1.out).bel hr))
      clear rb hr
      go_wp2_with (fail)
      obtain ⟨k1, k2, _⟩ := box_wrote ZB.out.2.1 (Nat.le_refl _) ZB.out.1 (.slice none 0 0) (.slice none 0 0)
      exact bodyPost_ret (res_cell2 Try.results48 rfl (ld_undo _ _ _ _ k1)) rfl (ReadUE.bad ZB.out.2.2 rfl k2)
    · have d1 : decide ((N : Int) > 256) = false := decide_eq_false (by omega)
      clear hgc
      have hN : N ≤ 256 := by omega
      clear hbig
      have k3' : 0 ≤ x := by omega
      have G0 : GetI (getCF b) b N x 0 x [] := GetI.start (by omega) k5
      go_wp2_with (fail)
      go_loopw [6, 8, 9, 10, 11] (fun a i _ _ _ wr => ∃ (j : Nat) (at2 : Int) (B : Option Addr) (d : Nat) (hs : List Cm), j ≤ N ∧ a = .int .i64 at2 ∧ i = .int .u64 j ∧ GetI (getCF b) b N x j at2 (cns hs) ∧ RdU w wr w.heap.size B j d hs none 0 0 []) (fun _ i _ _ _ _ => N - (intOf i).toNat)
      case atStart => exact ⟨0, x, none, 0, [], by omega, rfl, rfl, G0, u1.out⟩
      case round =>
        clear G0
        obtain ⟨j, at2, B, d, hs, hj, rfl, rfl, hG, hU⟩ := hrel
        by_cases hlt : j < N
        · have d2 : decide ((j : Int) < (N : Int)) = true := decide_eq_true (by omega)
          obtain ⟨y, nx, q, hgy⟩ : ∃ y nx q, getCF b at2 = (y, nx, q) := ⟨_, _, _, rfl⟩
          have hat0 := hG.at0
          have hat1 := hG.at1
          have hlb := HL.out
          have G := Lib.hid (rgetC_is (HB.out.1.past hU.bel) (by omega) hgy)
          have hw : IntKind.u64.wrap ((j : Int) + 1) = (j : Int) + 1 := by rw [IntKind.wrap_u64]; omega
          have hdo : y.ok := by have := getCF_ok HB.out.1.isB at2; rw [hgy] at this; exact this
          have hdl : y.l.length ≤ 100 := by have := getCF_len b at2; rw [hgy] at this; exact this
          have S := Lib.hid (And.intro hU (And.intro hG hgy))
          clear hG hU hgy hlb
          go_wp2_with (fail)
          refine G.out.mono ?_
          rintro e w3 ⟨A3, k3, rfl, ho3, hb3⟩
          have hokd := cc_ok (m := ⟨y, A3, k3⟩) hdo.p
          have sl := slot_self w3 (.cells (cc zm).toArray 57) (cc ⟨y, A3, k3⟩).toArray
          have hl2 := ld_coin_at _ ⟨w3.heap.size, 0, none⟩ ⟨y, A3, k3⟩ hdo.p (coin_at (both_row w3 (cc zm).toArray 57 (cc ⟨y, A3, k3⟩).toArray))
          have u5 := S.out.1.below (bThen hb3 sl)
          have hl3 := OwnN.mono (OwnN.below ho3 sl) S.out.1.bel.size
          clear ho3 hb3 sl
          by_cases hq0 : q = 0
          · subst hq0
            have dq : ((0 : Int) != 0) = false := rfl
            have hnx := (by have := getCF_next HB.out.1.isB (at_ := at2) (by rw [S.out.2.2]); rw [S.out.2.2] at this; simp only at this; exact (⟨by omega, this.2.2⟩ : 0 ≤ nx ∧ nx ≤ b.length))
            have hG2 := S.out.2.1.next hlt S.out.2.2 hnx.1 hnx.2
            have z0 := (row_cells u5.box 0).1
            have l3 : Below ((w3.alloc (.cells (cc zm).toArray 57)).setRow w3.heap.size (cc ⟨y, A3, k3⟩).toArray).heap.size ((w3.alloc (.cells (cc zm).toArray 57)).setRow w3.heap.size (cc ⟨y, A3, k3⟩).toArray) (((w3.alloc (.cells (cc zm).toArray 57)).setRow w3.heap.size (cc ⟨y, A3, k3⟩).toArray).alloc (.cells (cc ⟨y, A3, k3⟩).toArray 57)) := (Below.refl _ _).alloc (Nat.le_refl _) _
            have u6 := u5.below l3
            have hone := one_row ((w3.alloc (.cells (cc zm).toArray 57)).setRow w3.heap.size (cc ⟨y, A3, k3⟩).toArray) ⟨y, A3, k3⟩ hdo.p
            rw [show ((w3.alloc (.cells (cc zm).toArray 57)).setRow w3.heap.size (cc ⟨y, A3, k3⟩).toArray).heap.size = w3.heap.size + 1 by simp] at hone
            have hz6 := u6.bel.size
            have Z := Lib.hid (And.intro hG2 (And.intro u6 (And.intro hone (And.intro (OwnN.below hl3 l3) hz6))))
            clear hG2 hnx u5 u6 hone l3 hl3 hz6
            go_wp2_with (at_builtin; refine Stop.mk ?_)
            refine Stop.out ?_
            refine wpList_appC _ rfl (.tmp 49) (.tmp 51) rfl w.heap.size B j d hs rfl Z.out.2.1.sp _ 1 1 [⟨y, A3, k3⟩] rfl Z.out.2.2.1 rfl (fun z hz => by rcases List.mem_singleton.1 hz with rfl; exact ⟨hdo, Z.out.2.2.2.1, by show y.l.length ≤ _; omega⟩) (by omega) Z.out.2.2.2.2 ?_
            intro B6 d6 w6 ho6 hg6 hB6
            have rb := Z.out.2.1.box1 hg6
            have y0 := (row_cells rb 0).1
            have y1 := (row_cells rb 0).2
            have W := Lib.hid (Z.out.2.1.coin ho6 hg6)
            clear ho6 hg6 hB6 hl2 rb z0
            go_wp2_with (fail)
            go_roundw
            case rel => exact ⟨j + 1, nx, B6, d6, _, by omega, rfl, by go_num, by rw [cns_append]; exact Z.out.1, W.out⟩
            case measure => simp [intOf]; omega
          · have dq : (q == 0) = false := by simpa using hq0
            have dq2 : (q != 0) = true := by simpa using hq0
            obtain ⟨cy, yy, hst⟩ := S.out.2.1.stop hlt S.out.2.2 hq0
            have hr : readUF b = ([], [], q) := readUF_bad1 (show listC b 0 = ([], 0, q) from listG_bad (get := getCF b) HB.out.2.1 (by omega) hst hq0) hq0
            have U5 := Lib.hid u5
            clear hq0 hst u5 hl2 hl3
            have rb := (U5.out).res
            have c0 := (row_cells rb 0).1
            have c1 := (row_cells rb 1).1
            have e0 := (row_cells rb 0).2
            have e1 := (row_cells rb 1).2
            have ZB := Lib.hid (And.intro rb (And.intro (U5.out).bel hr))
            clear rb hr
            go_wp2_with (fail)
            obtain ⟨k1, k2, _⟩ := box_wrote ZB.out.2.1 (Nat.le_refl _) ZB.out.1 (.slice none 0 0) (.slice none 0 0)
            exact bodyPost_ret (res_cell2 Try.results48 rfl (ld_undo _ _ _ _ k1)) rfl (ReadUE.bad ZB.out.2.2 rfl k2)
        · obtain rfl : j = N := by omega
          have d2 : decide ((j : Int) < (j : Int)) = false := decide_eq_false (by omega)
          have hL1 : listC b 0 = (cns hs, at2, 0) := listG_ok (get := getCF b) HB.out.2.1 (by omega) hG.done
          have hat0 := hG.at0
          have hat1 := hG.at1
          have hlb := HL.out
          obtain ⟨v2, x2, q2, hgc2⟩ : ∃ v2 x2 q2, getCountF b at2 = (v2, x2, q2) := ⟨_, _, _, rfl⟩
          have C2 := Lib.hid (rgetCount_is (HB.out.1.past hU.bel) (by omega) hgc2)
          have S := Lib.hid (And.intro hU hL1)
          clear hU hG hL1
          go_wp2_with (fail)
          refine C2.out.mono ?_
          rintro e w4 ⟨rfl, hb4⟩
          have u4 := Lib.hid (S.out.1.below hb4)
          clear hb4
          by_cases hq2 : q2 = 0
          · subst hq2
            obtain ⟨m1, m2, m3, m4, m5⟩ := getCountF_ok HB.out.1.isB (at_ := at2) (by rw [hgc2])
            rw [hgc2] at m1 m2 m4 m5
            simp only at m1 m2 m4 m5
            obtain ⟨M, rfl⟩ := Int.eq_ofNat_of_zero_le m1
            by_cases hbig2 : 256 < (M : Int)
            · have d3 : decide ((M : Int) > 256) = true := decide_eq_true hbig2
              have hr : readUF b = ([], [], 3) := readUF_bad2 S.out.2 (show listP b at2 = ([], 0, 3) from listG_many (get := getPF b) hgc2 hbig2) (by decide)
              clear hgc2 hlb
              have rb := (u4.out).res
              have c0 := (row_cells rb 0).1
              have c1 := (row_cells rb 1).1
              have e0 := (row_cells rb 0).2
              have e1 := (row_cells rb 1).2
              have ZB := Lib.hid (And.intro rb (And.intro (u4.out).bel hr))
              clear rb hr
              go_wp2_with (fail)
              obtain ⟨k1, k2, _⟩ := box_wrote ZB.out.2.1 (Nat.le_refl _) ZB.out.1 (.slice none 0 0) (.slice none 0 0)
              exact bodyPost_ret (res_cell2 Try.results48 rfl (ld_undo _ _ _ _ k1)) rfl (ReadUE.bad ZB.out.2.2 rfl k2)
            · have d3 : decide ((M : Int) > 256) = false := decide_eq_false (by omega)
              have GC2 := Lib.hid hgc2
              clear hgc2 hlb
              have hM : M ≤ 256 := by omega
              clear hbig2
              have G0 : GetI (getPF b) b M x2 0 x2 [] := GetI.start (by omega) m5
              go_wp2_with (fail)
              go_loopw [6, 15, 16, 17, 18] (fun a i _ _ _ wr => ∃ (t : Nat) (at3 : Int) (B2 : Option Addr) (dd : Nat) (ks : List Pt), t ≤ M ∧ a = .int .i64 at3 ∧ i = .int .u64 t ∧ GetI (getPF b) b M x2 t at3 ks ∧ RdU w wr w.heap.size B j d hs B2 t dd ks) (fun _ i _ _ _ _ => M - (intOf i).toNat)
              case atStart => exact ⟨0, x2, none, 0, [], by omega, rfl, rfl, G0, u4.out⟩
              case round =>
                clear G0
                obtain ⟨t, at3, B2, dd, ks, ht, rfl, rfl, hG, hU⟩ := hrel
                by_cases hlt2 : t < M
                · have d4 : decide ((t : Int) < (M : Int)) = true := decide_eq_true (by omega)
                  obtain ⟨y, nx, q, hgy⟩ : ∃ y nx q, getPF b at3 = (y, nx, q) := ⟨_, _, _, rfl⟩
                  have hbt0 := hG.at0
                  have hbt1 := hG.at1
                  have hlb := HL.out
                  have G := Lib.hid (rgetPoint_is (HB.out.1.past hU.bel) (by omega) hgy)
                  have hw : IntKind.u64.wrap ((t : Int) + 1) = (t : Int) + 1 := by rw [IntKind.wrap_u64]; omega
                  have hdo : y.ok := by have := getPF_pt HB.out.1.isB at3; rw [hgy] at this; exact this
                  have T := Lib.hid (And.intro hU (And.intro hG hgy))
                  clear hG hU hgy hlb
                  go_wp2_with (fail)
                  refine G.out.mono ?_
                  rintro e w3 ⟨rfl, hb3⟩
                  have hokd := pc_ok hdo
                  have sl := slot_self w3 (.cells (pc zeroPt).toArray 54) (pc y).toArray
                  have hl2 := ld_point_of _ ⟨w3.heap.size, 0, none⟩ y hdo (point_at (both_row w3 (pc zeroPt).toArray 54 (pc y).toArray))
                  have u5 := T.out.1.below (bThen hb3 sl)
                  clear hb3 sl
                  by_cases hq0 : q = 0
                  · subst hq0
                    have dq : ((0 : Int) != 0) = false := rfl
                    have hnx := (by have := getPF_in T.out.2.2; exact (⟨by omega, by omega⟩ : 0 ≤ nx ∧ nx ≤ b.length))
                    have hG2 := T.out.2.1.next hlt2 T.out.2.2 hnx.1 hnx.2
                    have z0 := (row_cells u5.box 1).1
                    have l3 : Below ((w3.alloc (.cells (pc zeroPt).toArray 54)).setRow w3.heap.size (pc y).toArray).heap.size ((w3.alloc (.cells (pc zeroPt).toArray 54)).setRow w3.heap.size (pc y).toArray) (((w3.alloc (.cells (pc zeroPt).toArray 54)).setRow w3.heap.size (pc y).toArray).alloc (.cells (pc y).toArray 54)) := (Below.refl _ _).alloc (Nat.le_refl _) _
                    have u6 := u5.below l3
                    have hone := one_rowQ ((w3.alloc (.cells (pc zeroPt).toArray 54)).setRow w3.heap.size (pc y).toArray) y hdo
                    rw [show ((w3.alloc (.cells (pc zeroPt).toArray 54)).setRow w3.heap.size (pc y).toArray).heap.size = w3.heap.size + 1 by simp] at hone
                    have hz6 := u6.bel.size
                    have Z := Lib.hid (And.intro hG2 (And.intro u6 (And.intro hone hz6)))
                    clear hG2 hnx u5 u6 hone l3 hz6
                    go_wp2_with (at_builtin; refine Stop.mk ?_)
                    refine Stop.out ?_
                    refine wpList_appQ _ rfl (.tmp 87) (.tmp 89) rfl w.heap.size B2 t dd ks rfl Z.out.2.1.md _ 1 1 [y] rfl Z.out.2.2.1 rfl (fun z hz => by rcases List.mem_singleton.1 hz with rfl; exact hdo) (by omega) Z.out.2.2.2 ?_
                    intro B6 d6 w6 ho6 hg6 hB6
                    have rb := Z.out.2.1.box2 hg6
                    have y0 := (row_cells rb 1).1
                    have y1 := (row_cells rb 1).2
                    have W := Lib.hid (Z.out.2.1.point ho6 hg6)
                    clear ho6 hg6 hB6 hl2 rb z0
                    go_wp2_with (fail)
                    go_roundw
                    case rel => exact ⟨t + 1, nx, B6, d6, _, by omega, rfl, by go_num, Z.out.1, W.out⟩
                    case measure => simp [intOf]; omega
                  · have dq : (q == 0) = false := by simpa using hq0
                    have dq2 : (q != 0) = true := by simpa using hq0
                    obtain ⟨cy, yy, hst⟩ := T.out.2.1.stop hlt2 T.out.2.2 hq0
                    have hr : readUF b = ([], [], q) := readUF_bad2 S.out.2 (show listP b at2 = ([], 0, q) from listG_bad (get := getPF b) GC2.out (by omega) hst hq0) hq0
                    have U5 := Lib.hid u5
                    clear hq0 hst u5 hl2
                    have rb := (U5.out).res
                    have c0 := (row_cells rb 0).1
                    have c1 := (row_cells rb 1).1
                    have e0 := (row_cells rb 0).2
                    have e1 := (row_cells rb 1).2
                    have ZB := Lib.hid (And.intro rb (And.intro (U5.out).bel hr))
                    clear rb hr
                    go_wp2_with (fail)
                    obtain ⟨k1, k2, _⟩ := box_wrote ZB.out.2.1 (Nat.le_refl _) ZB.out.1 (.slice none 0 0) (.slice none 0 0)
                    exact bodyPost_ret (res_cell2 Try.results48 rfl (ld_undo _ _ _ _ k1)) rfl (ReadUE.bad ZB.out.2.2 rfl k2)
                · obtain rfl : t = M := by omega
                  have d4 : decide ((t : Int) < (t : Int)) = false := decide_eq_false (by omega)
                  have hL2 : listP b at2 = (ks, at3, 0) := listG_ok (get := getPF b) GC2.out (by omega) hG.done
                  have U := Lib.hid hU
                  by_cases hend : at3 < (n : Int)
                  · have d5 : decide (at3 < (n : Int)) = true := decide_eq_true hend
                    have hr : readUF b = ([], [], 5) := readUF_more S.out.2 hL2 (by rw [HL.out]; exact hend)
                    clear hU hG hL2 hend
                    have rb := (U.out).res
                    have c0 := (row_cells rb 0).1
                    have c1 := (row_cells rb 1).1
                    have e0 := (row_cells rb 0).2
                    have e1 := (row_cells rb 1).2
                    have ZB := Lib.hid (And.intro rb (And.intro (U.out).bel hr))
                    clear rb hr
                    go_wp2_with (fail)
                    obtain ⟨k1, k2, _⟩ := box_wrote ZB.out.2.1 (Nat.le_refl _) ZB.out.1 (.slice none 0 0) (.slice none 0 0)
                    exact bodyPost_ret (res_cell2 Try.results48 rfl (ld_undo _ _ _ _ k1)) rfl (ReadUE.bad ZB.out.2.2 rfl k2)
                  · have d5 : decide (at3 < (n : Int)) = false := decide_eq_false hend
                    have hr : readUF b = (cns hs, ks, 0) := readUF_ok S.out.2 hL2 (by rw [HL.out]; exact hend)
                    have R := Lib.hid hr
                    have c0 := (row_cells hU.res 0).1
                    have c1 := (row_cells hU.res 1).1
                    have e0 := (row_cells hU.res 0).2
                    have e1 := (row_cells hU.res 1).2
                    have z0 := (row_cells hU.box 0).1
                    have z1 := (row_cells hU.box 1).1
                    clear hU hG hL2 hend hr
                    go_wp2_with (fail)
                    obtain ⟨k1, k2, k3⟩ := box_wrote U.out.bel (Nat.le_refl _) U.out.res (.slice B j d) (.slice B2 t dd)
                    refine bodyPost_ret (res_cell2 Try.results48 rfl (ld_undo _ _ _ _ k1)) rfl ?_
                    rw [R.out]
                    exact ⟨B, j, d, hs, B2, t, dd, rfl, U.out.sp.spare k3 (by decide) (by decide), rfl, U.out.md.spare k3 (by decide), k2⟩
          · have dq : (q2 == 0) = false := by simpa using hq2
            have dq2 : (q2 != 0) = true := by simpa using hq2
            have hr : readUF b = ([], [], q2) := readUF_bad2 S.out.2 (show listP b at2 = ([], 0, q2) from listG_err (get := getPF b) hgc2 hq2) hq2
            clear hq2 hgc2 hlb
            have rb := (u4.out).res
            have c0 := (row_cells rb 0).1
            have c1 := (row_cells rb 1).1
            have e0 := (row_cells rb 0).2
            have e1 := (row_cells rb 1).2
            have ZB := Lib.hid (And.intro rb (And.intro (u4.out).bel hr))
            clear rb hr
            go_wp2_with (fail)
            obtain ⟨k1, k2, _⟩ := box_wrote ZB.out.2.1 (Nat.le_refl _) ZB.out.1 (.slice none 0 0) (.slice none 0 0)
            exact bodyPost_ret (res_cell2 Try.results48 rfl (ld_undo _ _ _ _ k1)) rfl (ReadUE.bad ZB.out.2.2 rfl k2)
  · have dq : (q1 == 0) = false := by simpa using hq1
    have dq2 : (q1 != 0) = true := by simpa using hq1
    have hr : readUF b = ([], [], q1) := readUF_bad1 (show listC b 0 = ([], 0, q1) from listG_err (get := getCF b) hgc hq1) hq1
    clear hq1 hgc
    have rb := (u1.out).res
    have c0 := (row_cells rb 0).1
    have c1 := (row_cells rb 1).1
    have e0 := (row_cells rb 0).2
    have e1 := (row_cells rb 1).2
    have ZB := Lib.hid (And.intro rb (And.intro (u1.out).bel hr))
    clear rb hr
    go_wp2_with (fail)
    obtain ⟨k1, k2, _⟩ := box_wrote ZB.out.2.1 (Nat.le_refl _) ZB.out.1 (.slice none 0 0) (.slice none 0 0)
    exact bodyPost_ret (res_cell2 Try.results48 rfl (ld_undo _ _ _ _ k1)) rfl (ReadUE.bad ZB.out.2.2 rfl k2)
end Go.Proofs.Ytofclanljhfkiaa
/- The reference's Same of undos. -/
namespace Go.Proofs.Ytofclanljhfkiaa
open Go.RowKit Go.Proofs En Co
set_option linter.unusedVariables false
set_option linter.unusedSimpArgs false
set_option maxRecDepth 20000
attribute [local go_sem ↓] ld_point_eq ld_coin_eq ld_hash_eq st_point_eq st_coin_eq bd_point_eq bd_coin_eq eq_point_eq ne_point_eq al_coin_eq al_point_eq bs_coin_eq
attribute [local go_sem] ld_point_run ld_coin_run ld_hash_run st_point_run st_coin_run bd_point_zero bd_coin_zero bd_point_of bd_coin_of hash_at rowIs_34 rowIs_37 rowIs_both hasAt_both cellsAt_both eq_point_run ne_point_run guard_pt al_coin_run al_point_run al_coin_row al_point_row nil_bytes nil_coins bs_coin_run

abbrev StSU (X : Nat) (u v : Value) (a1 : Addr) (p1 : Pt) (a2 : Addr) (p2 : Pt) (w' : World) : Prop := (w'.cell? ⟨X, 1, none⟩ = some u ∧ w'.cell? ⟨X + 1, 1, none⟩ = some v) ∧ StQQ a1 p1 a2 p2 w'
set_option maxRecDepth 20000 in
set_option maxHeartbeats 4000000 in
theorem rsameU_any {base : Nat} {w : World} {A : Option Addr} {n c : Nat} {hs : List Cm} {B : Option Addr} {n2 c2 : Nat} {xs : List Pt} {A' : Option Addr} {m d : Nat} {ks : List Cm} {B' : Option Addr} {m2 d2 : Nat} {ys : List Pt}
    (ha : ArgP w A n c hs) (hx : FirmQ w base B n2 c2 xs) (hb : ArgP w A' m d ks) (hy : FirmQ w base B' m2 d2 ys) {r : Bool} (hr : decide (cns hs = cns ks ∧ xs = ys) = r) :
    Calls Try.prog 49 #[.agg #[.slice A n c, .slice B n2 c2], .agg #[.slice A' m d, .slice B' m2 d2]] w fun e w' => e = .returned (.bool r) ∧ Below w.heap.size w w' := by
  obtain ⟨f0, g0⟩ := two_box w (.cells #[.slice A n c, .slice B n2 c2] 25) (.cells #[.slice A' m d, .slice B' m2 d2] 25)
  have b0 : Below w.heap.size w ((w.alloc (.cells #[.slice A n c, .slice B n2 c2] 25)).alloc (.cells #[.slice A' m d, .slice B' m2 d2] 25)) := belA ((Below.refl _ _).alloc (Nat.le_refl _) _) _ (Nat.le_refl _)
  have p0 := (row_cells f0 0).1
  have p1 := (row_cells f0 1).1
  have q0 := (row_cells g0 0).1
  have q1 := (row_cells g0 1).1
  have hn2 : n2 ≤ 9223372036854775807 := by have := hx.cap; have := hx.max; unfold maxLen at this; omega
  have EC := Lib.hid (rsameL_any A n c hs A' m d ks _ (ha.below b0) (hb.below b0))
  have H := Lib.hid (And.intro f0 (And.intro g0 (And.intro b0 (And.intro (hx.below b0) (And.intro (hy.below b0) hr)))))
  clear f0 g0 b0 ha hb hx hy hr
  go_enter Try.func49, Try.ntmps49
  go_wp2_with (fail)
  refine EC.out.mono ?_
  rintro e w1 ⟨rfl, hb1⟩
  have bl1 := bThen H.out.2.2.1 hb1
  by_cases he : cns hs = cns ks
  · rw [decide_eq_true he]
    have y1 := (row_cells (kept H.out.1 hb1) 1).1
    have z1 := (row_cells (kept H.out.2.1 hb1) 1).1
    have HT := Lib.hid (And.intro (H.out.2.2.2.1.below hb1) (And.intro (H.out.2.2.2.2.1.below hb1) (And.intro bl1 (And.intro he (And.intro (kept H.out.1 hb1) (kept H.out.2.1 hb1))))))
    clear bl1 hb1 he p0 p1 q0 q1
    by_cases hn : n2 = m2
    · subst hn
      have d0 : ((n2 : Int) == (n2 : Int)) = true := beq_self_eq_true _
      have l1 := Lib.hid HT.out.1.len
      have l2 := Lib.hid HT.out.2.1.len
      go_wp2_with (fail)
      go_loopw [5] (fun i wr => ∃ j : Nat, j ≤ n2 ∧ i = .int .i64 j ∧ xs.take j = ys.take j ∧ Below w1.heap.size w1 wr) (fun i _ => n2 - (intOf i).toNat)
      case atStart => exact ⟨0, by omega, rfl, rfl, Below.refl _ _⟩
      case round =>
        obtain ⟨j, hj, rfl, htk, hbel⟩ := hrel
        have x1 := (row_cells (kept HT.out.2.2.2.2.1 hbel) 1).1
        clear y1 z1
        by_cases hlt : j < n2
        · have dl : decide ((j : Int) < (n2 : Int)) = true := decide_eq_true (by omega)
          obtain ⟨ad, p, rfl, hm, hok, hbk, hc⟩ := (HT.out.1.below hbel).at_ hlt
          obtain ⟨ad2, p2, rfl, hm2, hok2, hbk2, hc2⟩ := (HT.out.2.1.below hbel).at_ hlt
          have hS0 : StSU w.heap.size (.slice (some ad) n2 c2) (.slice (some ad2) n2 d2) (ad.add (j * 34)) p (ad2.add (j * 34)) p2 wr.drew := ⟨⟨(row_cells (kept HT.out.2.2.2.2.1 hbel) 1).1, (row_cells (kept HT.out.2.2.2.2.2 hbel) 1).1⟩, ld_point_of wr.drew _ p hok hc, ld_point_of wr.drew _ p2 hok2 hc2⟩
          have okp : okPts (pc p).toArray (pc p2).toArray := ⟨p, p2, hok, hok2, rfl, rfl⟩
          have eqp := eqB_pc hok hok2
          have i1 : (0 : Int) ≤ (j : Int) := by omega
          have i2 : (j : Int) < (n2 : Int) := by omega
          obtain ⟨r2, hr2⟩ : ∃ r2, decide (p = p2) = r2 := ⟨_, rfl⟩
          rw [hr2] at eqp
          have X := Lib.hid (And.intro htk (And.intro hbel (And.intro hm (And.intro hm2 hr2))))
          clear htk hbel hr2 hm hm2 hok hok2 hc hc2
          go_wp2_with (fail)
          go_region_held3 (fun w' => StSU w.heap.size (.slice (some ad) n2 c2) (.slice (some ad2) n2 d2) (ad.add (j * 34)) p (ad2.add (j * 34)) p2 w') (exact hS0) (fail)
          rename_i hHeldX
          have Y := Lib.hid (bThen X.out.2.1 (Below.refl wr.heap.size wr).drew)
          clear hHeldX hS0
          cases r2 with
          | false =>
            go_wp2_with (fail)
            go_ret
            have hne : ¬ xs = ys := by
              intro e
              have h1 := X.out.2.2.1
              rw [e, X.out.2.2.2.1] at h1
              exact of_decide_eq_false X.out.2.2.2.2 (Option.some.inj h1).symm
            have hrr := H.out.2.2.2.2.2
            rw [decide_eq_false (fun h => hne h.2)] at hrr
            rw [← hrr]
            exact ⟨rfl, bThen HT.out.2.2.1 Y.out⟩
          | true =>
            go_wp2_with (fail)
            go_roundw
            case rel => exact ⟨j + 1, by omega, by go_num, take_same X.out.1 X.out.2.2.1 X.out.2.2.2.1 (of_decide_eq_true X.out.2.2.2.2), Y.out⟩
            case measure => simp [intOf]; omega
        · obtain rfl : j = n2 := by omega
          have dl : decide ((j : Int) < (j : Int)) = false := decide_eq_false (by omega)
          have e : xs = ys := by
            rw [List.take_of_length_le (by rw [l1.out]; exact Nat.le_refl _), List.take_of_length_le (by rw [l2.out]; exact Nat.le_refl _)] at htk
            exact htk
          have E := Lib.hid (And.intro e hbel)
          clear e hbel htk
          go_wp2_with (fail)
          go_ret
          have hrr := H.out.2.2.2.2.2
          rw [decide_eq_true ⟨HT.out.2.2.2.1, E.out.1⟩] at hrr
          rw [← hrr]
          exact ⟨rfl, bThen HT.out.2.2.1 E.out.2⟩
    · have d0 : ((n2 : Int) == (m2 : Int)) = false := by simp; omega
      have hrr : r = false := by
        rw [← H.out.2.2.2.2.2]
        refine decide_eq_false fun h => hn ?_
        rw [← HT.out.1.len, ← HT.out.2.1.len, h.2]
      have R := Lib.hid hrr
      clear hrr hn
      go_wp2_with (fail)
      go_ret
      rw [R.out]
      exact ⟨rfl, HT.out.2.2.1⟩
  · rw [decide_eq_false he]
    have hrr : r = false := by rw [← H.out.2.2.2.2.2]; simp [he]
    have B1 := Lib.hid (And.intro bl1 hrr)
    clear bl1 hb1 he hrr
    go_wp2_with (fail)
    go_ret
    rw [B1.out.2]
    exact ⟨rfl, B1.out.1⟩
end Go.Proofs.Ytofclanljhfkiaa
