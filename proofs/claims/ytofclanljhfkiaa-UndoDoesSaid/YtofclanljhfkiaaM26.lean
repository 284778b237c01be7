/- Joined texts: UnI, UnK, UnL. -/
import Derived.Test.YtofclanljhfkiaaM25
import Derived.Test.YtofclanljhfkiaaM23
import Derived.Test.YtofclanljhfkiaaM16
/- undo.Put: an undo's bytes. -/
namespace Go.Proofs.Ytofclanljhfkiaa
open Go.RowKit Go.Proofs En Co
set_option linter.unusedVariables false
set_option linter.unusedSimpArgs false
set_option maxRecDepth 20000
attribute [local go_sem ↓] ld_point_eq ld_coin_eq ld_hash_eq st_point_eq st_coin_eq bd_point_eq bd_coin_eq eq_point_eq ne_point_eq al_coin_eq al_point_eq
attribute [local go_sem] ld_point_run ld_coin_run ld_hash_run st_point_run st_coin_run bd_point_zero bd_coin_zero bd_point_of bd_coin_of hash_at rowIs_34 rowIs_37 rowIs_both hasAt_both cellsAt_both eq_point_run ne_point_run guard_pt al_coin_run al_point_run al_coin_row al_point_row nil_bytes nil_coins

def ptsF (xs : List Pt) : List Int := xs.flatMap putPF
def allMay (cs : List Cn) : Bool := cs.all fun c => mayO c.v c.l
def putUF (cs : List Cn) (xs : List Pt) : List Int × Int :=
  if 256 < cs.length ∨ 256 < xs.length then ([], 2) else if allMay cs = true then (countF cs.length ++ coinsF cs ++ countF xs.length ++ ptsF xs, 0) else ([], 2)
theorem ptsF_next {xs : List Pt} {j : Nat} {p : Pt} (h : xs[j]? = some p) : ptsF (xs.take (j + 1)) = ptsF (xs.take j) ++ putPF p := by
  unfold ptsF
  rw [take_next h, List.flatMap_append]
  simp
theorem ptsF_len {xs : List Pt} (h : ∀ p ∈ xs, p.ok) : (ptsF xs).length = 38 * xs.length := by
  unfold ptsF
  induction xs with
  | nil => rfl
  | cons a r ih =>
    rw [List.flatMap_cons, List.length_append, ih (fun x hx => h x (List.mem_cons_of_mem _ hx)), putPF_length (h a (List.mem_cons_self ..)), List.length_cons]
    omega
theorem putUF_many {cs : List Cn} {xs : List Pt} (h : 256 < cs.length ∨ 256 < xs.length) : putUF cs xs = ([], 2) := by unfold putUF; rw [if_pos h]
theorem putUF_not {cs : List Cn} {xs : List Pt} (h : ¬ (256 < cs.length ∨ 256 < xs.length)) {j : Nat} {c : Cn} (hc : cs[j]? = some c) (hm : mayO c.v c.l = false) : putUF cs xs = ([], 2) := by
  unfold putUF
  rw [if_neg h, if_neg]
  intro e
  have := List.all_eq_true.1 e c (List.mem_of_getElem? hc)
  rw [hm] at this
  cases this
theorem putUF_all {cs : List Cn} {xs : List Pt} (h : ¬ (256 < cs.length ∨ 256 < xs.length)) (hm : allMay cs = true) : putUF cs xs = (countF cs.length ++ coinsF cs ++ countF xs.length ++ ptsF xs, 0) := by unfold putUF; rw [if_neg h, if_pos hm]
theorem allMay_next {cs : List Cn} {j : Nat} {c : Cn} (h : cs[j]? = some c) (ha : allMay (cs.take j) = true) (hm : mayO c.v c.l = true) : allMay (cs.take (j + 1)) = true := by
  unfold allMay at *
  rw [take_next h, List.all_append, ha]
  simp [hm]

set_option maxRecDepth 20000 in
set_option maxHeartbeats 4000000 in
theorem putU_any {w : World} {A : Option Addr} {n c : Nat} {hs : List Cm} (hp : ArgP w A n c hs) {base : Nat} {B : Option Addr} {n2 c2 : Nat} {xs : List Pt} (hq : FirmQ w base B n2 c2 xs) :
    Calls Try.prog 22 #[.agg #[.slice A n c, .slice B n2 c2]] w fun e w' => ∃ D d, e = .returned (.tuple #[.slice D (putUF (cns hs) xs).1.length d, .int .i64 (putUF (cns hs) xs).2]) ∧ OwnB w' w.heap.size D (putUF (cns hs) xs).1.length d (putUF (cns hs) xs).1 ∧ Below w.heap.size w w' := by
  have r0 : (w.alloc (.cells #[.slice A n c, .slice B n2 c2] 25)).heap[w.heap.size]? = some (.cells #[.slice A n c, .slice B n2 c2] 25 (0, 0)) := heap_alloc_new w _
  have b0 : Below w.heap.size w (w.alloc (.cells #[.slice A n c, .slice B n2 c2] 25)) := (Below.refl _ _).alloc (Nat.le_refl _) _
  have hncap : n ≤ c := hp.cap
  have hmax : c ≤ 9223372036854775807 := by have := hp.max; simp only [maxLen] at this; omega
  have hn2cap := hq.cap
  have hmax2 : c2 ≤ 9223372036854775807 := by have := hq.max; simp only [maxLen] at this; omega
  have hnl : (cns hs).length = n := by rw [cns_length]; exact hp.len
  have hnl2 := hq.len
  have z0 := (row_cells r0 0).1
  have z1 := (row_cells r0 1).1
  have HL := Lib.hid (And.intro hnl hnl2)
  have H := Lib.hid (And.intro hp (And.intro hq (And.intro r0 b0)))
  clear hp hq r0 b0 hnl hnl2
  go_enter Try.func22, Try.ntmps22
  by_cases hbn : 256 < n
  · have d1 : decide ((n : Int) > 256) = true := decide_eq_true (by omega)
    have d2 : decide ((n2 : Int) > 256) = decide ((n2 : Int) > 256) := rfl
    have hr := putUF_many (cs := cns hs) (xs := xs) (.inl (by rw [HL.out.1]; exact hbn))
    clear d2
    go_wp2_with (fail)
    go_ret2
    rw [hr]
    exact ⟨none, 0, rfl, OwnN.nil _ _ _ _, H.out.2.2.2⟩
  · by_cases hbn2 : 256 < n2
    · have d1 : decide ((n : Int) > 256) = false := decide_eq_false (by omega)
      have d2 : decide ((n2 : Int) > 256) = true := decide_eq_true (by omega)
      have hr := putUF_many (cs := cns hs) (xs := xs) (.inr (by rw [HL.out.2]; exact hbn2))
      go_wp2_with (fail)
      go_ret2
      rw [hr]
      exact ⟨none, 0, rfl, OwnN.nil _ _ _ _, H.out.2.2.2⟩
    · have d1 : decide ((n : Int) > 256) = false := decide_eq_false (by omega)
      have d2 : decide ((n2 : Int) > 256) = false := decide_eq_false (by omega)
      have hsm : ¬ (256 < (cns hs).length ∨ 256 < xs.length) := by rw [HL.out.1, HL.out.2]; omega
      have wn : IntKind.u64.wrap (n : Int) = n := wrap_u64 (by omega)
      have wn2 : IntKind.u64.wrap (n2 : Int) = n2 := wrap_u64 (by omega)
      obtain ⟨c0, hc0⟩ : ∃ c0, countF n = c0 := ⟨_, rfl⟩
      have c09 := countF_len9 n
      rw [hc0] at c09
      have C0 := Lib.hid hc0
      clear hc0
      go_wp2_with (fail)
      refine (count_is _ (by omega) C0.out).mono ?_
      rintro e w1 ⟨A1, k1, rfl, ho1, hb1⟩
      have y0 := (row_cells (kept H.out.2.2.1 hb1) 0).1
      have V0K := Lib.hid hb1
      have V0 := Lib.hid (And.intro (OwnN.mono ho1 H.out.2.2.2.size) (bThen H.out.2.2.2 hb1))
      clear ho1 hb1 z0 z1
      go_wp2_with (fail)
      go_loopw [4, 6, 7, 8, 29] (fun v _ _ _ i wr => ∃ j : Nat, j ≤ n ∧ i = .int .i64 j ∧ (∃ A k q out, v = .slice A q k ∧ out = c0 ++ coinsF ((cns hs).take j) ∧ OwnB wr w.heap.size A q k out) ∧ allMay ((cns hs).take j) = true ∧ Below w.heap.size w wr ∧ wr.heap[w.heap.size]? = some (.cells #[.slice A n c, .slice B n2 c2] 25 (0, 0))) (fun _ _ _ _ i _ => n - (intOf i).toNat)
      case atStart => exact ⟨0, by omega, rfl, ⟨A1, k1, _, c0, rfl, by simp [coinsF], V0.out.1⟩, rfl, V0.out.2, kept H.out.2.2.1 V0K.out⟩
      case round =>
        clear y0
        obtain ⟨j, hj, rfl, ⟨A2, k2, q, out, rfl, hout, ho⟩, ham, hbel, hbox⟩ := hrel
        have y0 := (row_cells hbox 0).1
        by_cases hlt : j < n
        · have d3 : decide ((j : Int) < (n : Int)) = true := decide_eq_true (by omega)
          obtain ⟨ad, m, rfl, hm, hok, hbk, hc⟩ := (H.out.1.below hbel).at_ hlt
          have hq' : q ≤ 9 + 200 * 256 := by
            have h3 := ho.len
            rw [hout, List.length_append] at h3
            have h6 : (coinsF ((cns hs).take j)).length ≤ 200 * ((cns hs).take j).length := coinsF_len fun c hc => by
              obtain ⟨m, hm, rfl⟩ := List.mem_map.1 (List.mem_of_mem_take hc)
              exact (H.out.1.ok m hm).c
            have h7 : ((cns hs).take j).length ≤ j := List.length_take_le _ _
            omega
          have hld := ld_coin_at wr (ad.add (j * 37)) m hok.c.p hc
          have hzr := hbel.size
          have hokm := cc_ok hok.c.p
          have sl := slot_self wr (.cells (cc zm).toArray 57) (cc m).toArray
          have hl2 := ld_coin_at _ ⟨wr.heap.size, 0, none⟩ m hok.c.p (coin_at (both_row wr (cc zm).toArray 57 (cc m).toArray))
          obtain ⟨pb, pq, hpb⟩ : ∃ pb pq, putCF m.c = (pb, pq) := ⟨_, _, rfl⟩
          have hpl := putCF_len hok.c.p hpb
          have hcj : (cns hs)[j]? = some m.c := by unfold cns; rw [List.getElem?_map, hm]; rfl
          have hcn : coinsF ((cns hs).take (j + 1)) = coinsF ((cns hs).take j) ++ pb := by rw [coinsF_next hcj, hpb]
          have PC := Lib.hid (put06_is (hok.below sl) hpb)
          have i1 : (0 : Int) ≤ (j : Int) := by omega
          have i2 : (j : Int) < (n : Int) := by omega
          have V := Lib.hid (And.intro hok (And.intro hpb (And.intro hcn (And.intro hout (And.intro (OwnN.below ho sl) (And.intro (bThen hbel sl) (And.intro hcj (And.intro ham (kept hbox sl)))))))))
          clear hc hm hok hpb hcn hout ho hbel ham hcj hbox sl
          go_wp2_with (fail)
          refine PC.out.mono ?_
          rintro e w5 ⟨A5, k5, rfl, ho5, hb5⟩
          have rb5 := kept V.out.2.2.2.2.2.2.2.2 hb5
          have hbel5 := bThen V.out.2.2.2.2.2.1 hb5
          have o5 := OwnN.below V.out.2.2.2.2.1 hb5
          cases hmay : mayO m.c.v m.c.l with
          | false =>
            have hpq : pq = 2 := by have := V.out.2.1; rw [putCF_err hmay] at this; exact (Prod.mk.inj this).2.symm
            have dq : (pq == 0) = false := by rw [hpq]; rfl
            have dq2 : (pq != 0) = true := by rw [hpq]; rfl
            have hr := putUF_not hsm V.out.2.2.2.2.2.2.1 hmay
            have HQ := Lib.hid hpq
            clear hpq hmay
            go_wp2_with (fail)
            go_ret2
            rw [hr]
            exact ⟨none, 0, by rw [HQ.out]; rfl, OwnN.nil _ _ _ _, hbel5⟩
          | true =>
            have hpq : pq = 0 := by have := V.out.2.1; rw [putCF_may hmay] at this; exact (Prod.mk.inj this).2.symm
            have dq : (pq == 0) = true := by rw [hpq]; rfl
            have dq2 : (pq != 0) = false := by rw [hpq]; rfl
            have ham2 := allMay_next V.out.2.2.2.2.2.2.1 V.out.2.2.2.2.2.2.2.1 hmay
            have hz5 := hbel5.size
            clear hpq hmay
            go_wp2_with (at_builtin; refine Stop.mk ?_)
            refine Stop.out ?_
            refine wpList_appN _ rfl (.tmp 41) (.tmp 42) _ rfl w.heap.size 5 .u8 1 Try.underlying40 inf_b A2 q k2 out rfl o5 A5 pb.length k5 pb rfl (OwnN.rd ho5) (by unfold maxLen; omega) (by omega) hz5 ?_
            intro A6 k6 w6 ho6 hg6 _
            have hb6 : Below w.heap.size w w6 := hbel5.grown hg6 hz5 (fun y hy => (OwnN.lt o5 y hy).1)
            have rb6 := (hg6.block _ (Array.getElem?_eq_some_iff.1 rb5).1 (fun e => Own.ne_block o5 rb5 (by decide) e.symm)).trans rb5
            have W := Lib.hid (And.intro ho6 (And.intro hb6 (And.intro ham2 rb6)))
            clear ho6 hb6 hg6 o5 hbel5 hb5 ho5 hz5 hld hokm ham2 rb5 rb6
            go_wp2_with (fail)
            go_roundw
            case rel => exact ⟨j + 1, by omega, by go_num, ⟨A6, k6, _, _, rfl, by rw [V.out.2.2.1, V.out.2.2.2.1, List.append_assoc], W.out.1⟩, W.out.2.2.1, W.out.2.1, W.out.2.2.2⟩
            case measure => simp [intOf]; omega
        · obtain rfl : j = n := by omega
          have d3 : decide ((j : Int) < (j : Int)) = false := decide_eq_false (by omega)
          have e : (cns hs).take j = cns hs := List.take_of_length_le (by rw [HL.out.1]; exact Nat.le_refl _)
          rw [e] at hout ham
          have hq' : q ≤ 9 + 200 * 256 := by
            have h3 := ho.len
            rw [hout, List.length_append] at h3
            have h6 : (coinsF (cns hs)).length ≤ 200 * (cns hs).length := coinsF_len fun c hc => by
              obtain ⟨m, hm, rfl⟩ := List.mem_map.1 hc
              exact (H.out.1.ok m hm).c
            have h7 := HL.out.1
            omega
          obtain ⟨cx, hcx⟩ : ∃ cx, countF n2 = cx := ⟨_, rfl⟩
          have cx9 := countF_len9 n2
          rw [hcx] at cx9
          have y1 := (row_cells hbox 1).1
          have V := Lib.hid (And.intro hout (And.intro ham (And.intro ho (And.intro hbel (And.intro hcx hbox)))))
          have C2 := Lib.hid (count_is wr (by omega) hcx)
          clear hout ham ho hbel hcx hbox e y0
          go_wp2_with (fail)
          refine C2.out.mono ?_
          rintro e w2 ⟨A3, k3, rfl, ho3, hb3⟩
          have o3 := OwnN.below V.out.2.2.1 hb3
          have hbel3 := bThen V.out.2.2.2.1 hb3
          have hz3 := hbel3.size
          have rb3 := kept V.out.2.2.2.2.2 hb3
          go_wp2_with (at_builtin; refine Stop.mk ?_)
          refine Stop.out ?_
          refine wpList_appN _ rfl (.tmp 45) (.tmp 50) _ rfl w.heap.size 5 .u8 1 Try.underlying40 inf_b A2 q k2 out rfl o3 A3 cx.length k3 cx rfl (OwnN.rd ho3) (by unfold maxLen; omega) (by omega) hz3 ?_
          intro A4 k4 w4 ho4 hg4 _
          have hb4 : Below w.heap.size w w4 := hbel3.grown hg4 hz3 (fun y hy => (OwnN.lt o3 y hy).1)
          have rb4 := (hg4.block _ (Array.getElem?_eq_some_iff.1 rb3).1 (fun e => Own.ne_block o3 rb3 (by decide) e.symm)).trans rb3
          have y2 := (row_cells rb4 1).1
          have W := Lib.hid (And.intro ho4 (And.intro hb4 rb4))
          clear ho3 hb3 o3 hbel3 hz3 rb3 ho4 hg4 hb4 rb4 y1
          go_wp2_with (fail)
          go_loopw [4, 10, 55] (fun v _ i wr => ∃ t : Nat, t ≤ n2 ∧ i = .int .i64 t ∧ (∃ A k r o2, v = .slice A r k ∧ o2 = out ++ cx ++ ptsF (xs.take t) ∧ OwnB wr w.heap.size A r k o2) ∧ Below w.heap.size w wr ∧ wr.heap[w.heap.size]? = some (.cells #[.slice A j c, .slice B n2 c2] 25 (0, 0))) (fun _ _ i _ => n2 - (intOf i).toNat)
          case atStart => exact ⟨0, by omega, rfl, ⟨A4, k4, _, _, rfl, by simp [ptsF], W.out.1⟩, W.out.2.1, W.out.2.2⟩
          case round =>
            clear y2
            obtain ⟨t, ht, rfl, ⟨A7, k7, r, o2, rfl, ho2e, ho7⟩, hb7, hbox⟩ := hrel
            have y1 := (row_cells hbox 1).1
            have hr : r ≤ 9 + 200 * 256 + 9 + 38 * 256 := by
              have h3 := ho7.len
              have h4 := V.out.2.2.1.len
              rw [ho2e, List.length_append, List.length_append] at h3
              have h6 := ptsF_len (xs := xs.take t) fun p hp => H.out.2.1.ok p (List.mem_of_mem_take hp)
              have h7 : (xs.take t).length ≤ t := List.length_take_le _ _
              omega
            by_cases htl : t < n2
            · have d4 : decide ((t : Int) < (n2 : Int)) = true := decide_eq_true (by omega)
              obtain ⟨ad, p, rfl, hp, hpo, hbk, hcp⟩ := (H.out.2.1.below hb7).at_ htl
              have hld := ld_point_of wr (ad.add (t * 34)) p hpo hcp
              have hokp := pc_ok hpo
              have sl := slot_self wr (.cells (pc zeroPt).toArray 54) (pc p).toArray
              have hl2 := ld_point_of _ ⟨wr.heap.size, 0, none⟩ p hpo (point_at (both_row wr (pc zeroPt).toArray 54 (pc p).toArray))
              have hpn : ptsF (xs.take (t + 1)) = ptsF (xs.take t) ++ putPF p := ptsF_next hp
              have hpl := putPF_length hpo
              have PP := Lib.hid (putPoint_any p hpo ((wr.alloc (.cells (pc zeroPt).toArray 54)).setRow wr.heap.size (pc p).toArray))
              have i1 : (0 : Int) ≤ (t : Int) := by omega
              have i2 : (t : Int) < (n2 : Int) := by omega
              have Z := Lib.hid (And.intro hpn (And.intro ho2e (And.intro (OwnN.below ho7 sl) (And.intro (bThen hb7 sl) (And.intro (kept hbox sl) hpl)))))
              clear hpn ho2e ho7 hb7 hcp hp hbox sl hpl
              go_wp2_with (fail)
              refine PP.out.mono ?_
              rintro e w5 ⟨A5, k5, rfl, ho5, hb5⟩
              have o5 := OwnN.below Z.out.2.2.1 hb5
              have hbel5 := bThen Z.out.2.2.2.1 hb5
              have hz5 := hbel5.size
              have rb5 := kept Z.out.2.2.2.2.1 hb5
              go_wp2_with (at_builtin; refine Stop.mk ?_)
              refine Stop.out ?_
              refine wpList_appN _ rfl (.tmp 59) (.tmp 61) _ rfl w.heap.size 5 .u8 1 Try.underlying40 inf_b A7 r k7 o2 rfl o5 A5 38 k5 (putPF p) rfl (OwnN.rd ho5) (by unfold maxLen; omega) (by omega) hz5 ?_
              intro A6 k6 w6 ho6 hg6 _
              have hb6 : Below w.heap.size w w6 := hbel5.grown hg6 hz5 (fun y hy => (OwnN.lt o5 y hy).1)
              have rb6 := (hg6.block _ (Array.getElem?_eq_some_iff.1 rb5).1 (fun e => Own.ne_block o5 rb5 (by decide) e.symm)).trans rb5
              have W2 := Lib.hid (And.intro ho6 (And.intro hb6 rb6))
              clear ho6 hb6 hg6 o5 hbel5 hb5 ho5 hz5 hld rb5 rb6
              go_wp2_with (fail)
              go_roundw
              case rel => exact ⟨t + 1, by omega, by go_num, ⟨A6, k6, _, _, rfl, by rw [Z.out.1, Z.out.2.1, List.append_assoc (out ++ cx)], W2.out.1⟩, W2.out.2.1, W2.out.2.2⟩
              case measure => simp [intOf]; omega
            · obtain rfl : t = n2 := by omega
              have d4 : decide ((t : Int) < (t : Int)) = false := decide_eq_false (by omega)
              have e : xs.take t = xs := List.take_of_length_le (by rw [HL.out.2]; exact Nat.le_refl _)
              rw [e] at ho2e
              have hf : putUF (cns hs) xs = (o2, 0) := by
                rw [putUF_all hsm V.out.2.1, ho2e, V.out.1, HL.out.1, HL.out.2, C0.out, V.out.2.2.2.2.1]
              have hlo := ho7.len
              have Z := Lib.hid (And.intro hf (And.intro ho7 (And.intro hb7 hlo)))
              clear ho2e e hf ho7 hb7 hlo hbox hr
              go_wp2_with (fail)
              go_ret2
              rw [Z.out.1]
              dsimp only
              rw [Z.out.2.2.2]
              exact ⟨A7, k7, rfl, Z.out.2.1, Z.out.2.2.1⟩
end Go.Proofs.Ytofclanljhfkiaa
/- undo.list: a count, and as many coins or points. -/
namespace Go.Proofs.Ytofclanljhfkiaa
open Go.RowKit Go.Proofs En Co
set_option linter.unusedVariables false
set_option linter.unusedSimpArgs false
set_option maxRecDepth 20000
attribute [local go_sem ↓] ld_point_eq ld_coin_eq ld_hash_eq st_point_eq st_coin_eq bd_point_eq bd_coin_eq eq_point_eq ne_point_eq al_coin_eq al_point_eq bs_coin_eq bs_point_eq
attribute [local go_sem] ld_point_run ld_coin_run ld_hash_run st_point_run st_coin_run bd_point_zero bd_coin_zero bd_point_of bd_coin_of hash_at rowIs_34 rowIs_37 rowIs_both hasAt_both cellsAt_both eq_point_run ne_point_run guard_pt al_coin_run al_point_run al_coin_row al_point_row nil_bytes nil_coins bs_coin_run bs_point_run

/-- so many are got, one behind the other -/
def getsG {α : Type} (get : Int → α × Int × Int) : Nat → Int → List α × Int × Int
  | 0, at_ => ([], at_, 0)
  | k + 1, at_ => if (get at_).2.2 = 0 then ((get at_).1 :: (getsG get k (get at_).2.1).1, (getsG get k (get at_).2.1).2.1, (getsG get k (get at_).2.1).2.2) else ([], 0, (get at_).2.2)
theorem getsG_next {α : Type} (get : Int → α × Int × Int) (k : Nat) (at_ : Int) : getsG get (k + 1) at_ = if (get at_).2.2 = 0 then ((get at_).1 :: (getsG get k (get at_).2.1).1, (getsG get k (get at_).2.1).2.1, (getsG get k (get at_).2.1).2.2) else ([], 0, (get at_).2.2) := rfl
theorem getsG_done {α : Type} (get : Int → α × Int × Int) (at_ : Int) : getsG get 0 at_ = ([], at_, 0) := rfl
/-- a count, and as many -/
def listG {α : Type} (get : Int → α × Int × Int) (b : List Int) (at_ : Int) : List α × Int × Int :=
  if (getCountF b at_).2.2 = 0 then
    (if 256 < (getCountF b at_).1 then ([], 0, 3)
     else if (getsG get (getCountF b at_).1.toNat (getCountF b at_).2.1).2.2 = 0 then getsG get (getCountF b at_).1.toNat (getCountF b at_).2.1 else ([], 0, (getsG get (getCountF b at_).1.toNat (getCountF b at_).2.1).2.2))
  else ([], 0, (getCountF b at_).2.2)
abbrev listC (b : List Int) (at_ : Int) : List Cn × Int × Int := listG (getCF b) b at_
abbrev listP (b : List Int) (at_ : Int) : List Pt × Int × Int := listG (getPF b) b at_
/-- an undo of bytes -/
def readUF (b : List Int) : List Cn × List Pt × Int :=
  if (listC b 0).2.2 = 0 then
    (if (listP b (listC b 0).2.1).2.2 = 0 then (if (listP b (listC b 0).2.1).2.1 < b.length then ([], [], 5) else ((listC b 0).1, (listP b (listC b 0).2.1).1, 0)) else ([], [], (listP b (listC b 0).2.1).2.2))
  else ([], [], (listC b 0).2.2)
section
variable {α : Type} {get : Int → α × Int × Int} {b : List Int} {at_ v x q : Int}
theorem listG_err (h : getCountF b at_ = (v, x, q)) (hq : q ≠ 0) : listG get b at_ = ([], 0, q) := by unfold listG; rw [h, if_neg hq]
theorem listG_many (h : getCountF b at_ = (v, x, 0)) (hv : 256 < v) : listG get b at_ = ([], 0, 3) := by unfold listG; rw [h, if_pos rfl, if_pos hv]
theorem listG_bad (h : getCountF b at_ = (v, x, 0)) (hv : ¬ 256 < v) {cs : List α} {y : Int} (hr : getsG get v.toNat x = (cs, y, q)) (hq : q ≠ 0) : listG get b at_ = ([], 0, q) := by
  unfold listG
  rw [h, if_pos rfl, if_neg hv]
  show (if (getsG get v.toNat x).2.2 = 0 then getsG get v.toNat x else ([], 0, (getsG get v.toNat x).2.2)) = _
  rw [hr, if_neg hq]
theorem listG_ok (h : getCountF b at_ = (v, x, 0)) (hv : ¬ 256 < v) {cs : List α} {y : Int} (hr : getsG get v.toNat x = (cs, y, 0)) : listG get b at_ = (cs, y, 0) := by
  unfold listG
  rw [h, if_pos rfl, if_neg hv]
  show (if (getsG get v.toNat x).2.2 = 0 then getsG get v.toNat x else ([], 0, (getsG get v.toNat x).2.2)) = _
  rw [hr, if_pos rfl]
end
/-- the first j are got -/
structure GetI {α : Type} (get : Int → α × Int × Int) (b : List Int) (N : Nat) (x : Int) (j : Nat) (at_ : Int) (cs : List α) : Prop where
  run : getsG get N x = (cs ++ (getsG get (N - j) at_).1, (getsG get (N - j) at_).2.1, (getsG get (N - j) at_).2.2)
  at0 : 0 ≤ at_
  at1 : at_ ≤ b.length
section
variable {α : Type} {get : Int → α × Int × Int} {b : List Int} {N j : Nat} {x at_ nx q : Int} {cs : List α} {d : α}
theorem GetI.start (h0 : 0 ≤ x) (h1 : x ≤ b.length) : GetI get b N x 0 x [] := ⟨by simp, h0, h1⟩
theorem GetI.next (h : GetI get b N x j at_ cs) (hj : j < N) (hg : get at_ = (d, nx, 0)) (h0 : 0 ≤ nx) (h1 : nx ≤ b.length) : GetI get b N x (j + 1) nx (cs ++ [d]) := by
  refine ⟨?_, h0, h1⟩
  have e := h.run
  rw [show N - j = (N - (j + 1)) + 1 by omega, getsG_next, hg, if_pos rfl] at e
  rw [e, List.append_assoc]
  rfl
theorem GetI.stop (h : GetI get b N x j at_ cs) (hj : j < N) (hg : get at_ = (d, nx, q)) (hq : q ≠ 0) : ∃ c y, getsG get N x = (c, y, q) := by
  have e := h.run
  rw [show N - j = (N - (j + 1)) + 1 by omega, getsG_next, hg, if_neg hq] at e
  exact ⟨_, _, e⟩
theorem GetI.done (h : GetI get b N x N at_ cs) : getsG get N x = (cs, at_, 0) := by
  have e := h.run
  rw [Nat.sub_self, getsG_done, List.append_nil] at e
  exact e
end

set_option maxRecDepth 20000 in
set_option maxHeartbeats 4000000 in
theorem listC_any {w : World} {A : Option Addr} {n c : Nat} {b : List Int} {at_ : Int} (hb : Arg w A n c b) (ha : -9223372036854775808 ≤ at_ ∧ at_ ≤ 9223372036854775807) :
    Calls Try.prog 62 #[.slice A n c, .int .i64 at_, .int .u64 256, .func (.func 63) #[] #[]] w fun e w' => ∃ B m d hs, e = .returned (.tuple #[.slice B m d, .int .i64 (listC b at_).2.1, .int .i64 (listC b at_).2.2]) ∧ OwnP w' w.heap.size B m d hs ∧ (cns hs) = (listC b at_).1 ∧ Below w.heap.size w w' := by
  have hlen := hb.rd.len
  have hn := hb.len
  obtain ⟨v, x, q1, hgc⟩ : ∃ v x q1, getCountF b at_ = (v, x, q1) := ⟨_, _, _, rfl⟩
  have C := Lib.hid (getCount_is hb ha hgc)
  have HB := Lib.hid (And.intro hb hgc)
  clear hb
  by_cases hq1 : q1 = 0
  · subst hq1
    obtain ⟨k1, k2, k3, k4, k5⟩ := getCountF_ok HB.out.1.isB (at_ := at_) (by rw [hgc])
    rw [hgc] at k1 k2 k4 k5
    simp only at k1 k2 k4 k5
    obtain ⟨N, rfl⟩ := Int.eq_ofNat_of_zero_le k1
    by_cases hbig : 256 < (N : Int)
    · have d1 : decide ((N : Int) > 256) = true := decide_eq_true hbig
      have hr := Lib.hid (show listC b at_ = ([], 0, 3) from listG_many (get := getCF b) hgc hbig)
      clear hgc hlen
      go_enter Try.func62, Try.ntmps62
      go_wp2_with (fail)
      refine C.out.mono ?_
      rintro e w1 ⟨rfl, hb1⟩
      go_wp2_with (fail)
      go_ret3
      refine ⟨none, 0, 0, [], ?_, OwnP.nil _ _, by rw [hr.out] <;> rfl, hb1⟩
      rw [hr.out]
      rfl
    · have d1 : decide ((N : Int) > 256) = false := decide_eq_false (by omega)
      clear hgc
      have hN : N ≤ 256 := by omega
      clear hbig
      have HL := Lib.hid hlen
      have k3' : 0 ≤ x := by omega
      have G0 : GetI (getCF b) b N x 0 x [] := GetI.start (by omega) k5
      clear hlen
      go_enter Try.func62, Try.ntmps62
      go_wp2_with (fail)
      refine C.out.mono ?_
      rintro e w1 ⟨rfl, hb1⟩
      go_wp2_with (fail)
      go_loopw [1, 13, 14, 15, 16, 33] (fun a v _ _ _ i wr => ∃ (j : Nat) (at2 : Int) (B : Option Addr) (d : Nat) (hs : List Cm), j ≤ N ∧ a = .int .i64 at2 ∧ i = .int .u64 j ∧ v = .slice B j d ∧ OwnP wr w.heap.size B j d hs ∧ GetI (getCF b) b N x j at2 (cns hs) ∧ Below w.heap.size w wr) (fun _ _ _ _ _ i _ => N - (intOf i).toNat)
      case atStart => exact ⟨0, x, none, 0, [], by omega, rfl, rfl, rfl, OwnP.nil _ _, G0, hb1⟩
      case round =>
        clear hb1 G0
        obtain ⟨j, at2, B, d, hs, hj, rfl, rfl, rfl, ho, hG, hbel⟩ := hrel
        by_cases hlt : j < N
        · have d2 : decide ((j : Int) < (N : Int)) = true := decide_eq_true (by omega)
          obtain ⟨y, nx, q, hgy⟩ : ∃ y nx q, getCF b at2 = (y, nx, q) := ⟨_, _, _, rfl⟩
          have hat0 := hG.at0
          have hat1 := hG.at1
          have hlb := HL.out
          have G := Lib.hid (getC_is (HB.out.1.below hbel) (by omega) hgy)
          have hw : IntKind.u64.wrap ((j : Int) + 1) = (j : Int) + 1 := by rw [IntKind.wrap_u64]; omega
          have hdo : y.ok := by have := getCF_ok HB.out.1.isB at2; rw [hgy] at this; exact this
          have hdl : y.l.length ≤ 100 := by have := getCF_len b at2; rw [hgy] at this; exact this
          have S := Lib.hid (And.intro ho (And.intro hG (And.intro hbel hgy)))
          clear ho hG hbel hgy hlb
          go_wp2_with (fail)
          refine G.out.mono ?_
          rintro e w3 ⟨A3, k3, rfl, ho3, hb3⟩
          have hokd := cc_ok (m := ⟨y, A3, k3⟩) hdo.p
          have sl := slot_self w3 (.cells (cc zm).toArray 57) (cc ⟨y, A3, k3⟩).toArray
          have hl2 := ld_coin_at _ ⟨w3.heap.size, 0, none⟩ ⟨y, A3, k3⟩ hdo.p (coin_at (both_row w3 (cc zm).toArray 57 (cc ⟨y, A3, k3⟩).toArray))
          have bw := bThen hb3 sl
          have hl3 := OwnN.mono (OwnN.below ho3 sl) S.out.2.2.1.size
          clear ho3 hb3 sl
          have o5 := S.out.1.below bw
          have hbel5 := bThen S.out.2.2.1 bw
          have hz5 := hbel5.size
          by_cases hq0 : q = 0
          · subst hq0
            have dq : ((0 : Int) != 0) = false := rfl
            have hnx := (by have := getCF_next HB.out.1.isB (at_ := at2) (by rw [S.out.2.2.2]); rw [S.out.2.2.2] at this; simp only at this; exact (⟨by omega, this.2.2⟩ : 0 ≤ nx ∧ nx ≤ b.length))
            have hG2 := S.out.2.1.next hlt S.out.2.2.2 hnx.1 hnx.2
            have Z := Lib.hid (And.intro hG2 (And.intro o5 hbel5))
            clear hG2 hnx
            go_wp2_with (at_builtin; refine Stop.mk ?_)
            refine Stop.out ?_
            have l3 : Below ((w3.alloc (.cells (cc zm).toArray 57)).setRow w3.heap.size (cc ⟨y, A3, k3⟩).toArray).heap.size ((w3.alloc (.cells (cc zm).toArray 57)).setRow w3.heap.size (cc ⟨y, A3, k3⟩).toArray) (((w3.alloc (.cells (cc zm).toArray 57)).setRow w3.heap.size (cc ⟨y, A3, k3⟩).toArray).alloc (.cells (cc ⟨y, A3, k3⟩).toArray 57)) := (Below.refl _ _).alloc (Nat.le_refl _) _
            have o6 := Z.out.2.1.below l3
            have hbel6 := bThen Z.out.2.2 l3
            have hz6 := hbel6.size
            have hone := one_row ((w3.alloc (.cells (cc zm).toArray 57)).setRow w3.heap.size (cc ⟨y, A3, k3⟩).toArray) ⟨y, A3, k3⟩ hdo.p
            rw [show ((w3.alloc (.cells (cc zm).toArray 57)).setRow w3.heap.size (cc ⟨y, A3, k3⟩).toArray).heap.size = w3.heap.size + 1 by simp] at hone
            refine wpList_appC _ rfl (.tmp 46) (.tmp 48) rfl w.heap.size B j d hs rfl o6 _ 1 1 [⟨y, A3, k3⟩] rfl hone rfl (fun z hz => by rcases List.mem_singleton.1 hz with rfl; exact ⟨hdo, OwnN.below hl3 l3, by show y.l.length ≤ _; omega⟩) (by omega) hz6 ?_
            intro B6 d6 w6 ho6 hg6 hB6
            clear hone l3 hl3 hl2
            have hb6 : Below w.heap.size w w6 := hbel6.grown hg6 hz6 (fun k hk => (Own.lt o6.row k hk).1)
            have W := Lib.hid (And.intro ho6 (And.intro hb6 Z.out.1))
            clear ho6 hg6 hb6 o5 hbel5 o6 hbel6 hz6 bw hz5
            go_wp2_with (fail)
            go_roundw
            case rel => exact ⟨j + 1, nx, B6, d6, _, by omega, rfl, by go_num, rfl, W.out.1, by rw [cns_append]; exact W.out.2.2, W.out.2.1⟩
            case measure => simp [intOf]; omega
          · have dq : (q == 0) = false := by simpa using hq0
            have dq2 : (q != 0) = true := by simpa using hq0
            obtain ⟨cy, yy, hst⟩ := S.out.2.1.stop hlt S.out.2.2.2 hq0
            have hr := Lib.hid (show listC b at_ = ([], 0, q) from listG_bad (get := getCF b) HB.out.2 (by omega) hst hq0)
            clear hq0 hst
            go_wp2_with (fail)
            go_ret3
            refine ⟨none, 0, 0, [], ?_, OwnP.nil _ _, by rw [hr.out] <;> rfl, hbel5⟩
            rw [hr.out]
            rfl
        · obtain rfl : j = N := by omega
          have d2 : decide ((j : Int) < (j : Int)) = false := decide_eq_false (by omega)
          have hr : listC b at_ = ((cns hs), at2, 0) := listG_ok (get := getCF b) HB.out.2 (by omega) hG.done
          have S := Lib.hid (And.intro ho (And.intro hr hbel))
          clear ho hG hbel hr
          go_wp2_with (fail)
          go_ret3
          refine ⟨B, j, d, hs, ?_, S.out.1, by rw [S.out.2.1], S.out.2.2⟩
          rw [S.out.2.1]
          rfl
  · have e1 : (q1 == 0) = false := by simpa using hq1
    have e2 : (q1 != 0) = true := by simpa using hq1
    have hr := Lib.hid (show listC b at_ = ([], 0, q1) from listG_err (get := getCF b) hgc hq1)
    clear hgc hq1 hlen
    go_enter Try.func62, Try.ntmps62
    go_wp2_with (fail)
    refine C.out.mono ?_
    rintro e w1 ⟨rfl, hb1⟩
    go_wp2_with (fail)
    go_ret3
    refine ⟨none, 0, 0, [], ?_, OwnP.nil _ _, by rw [hr.out] <;> rfl, hb1⟩
    rw [hr.out]
    rfl


set_option maxRecDepth 20000 in
set_option maxHeartbeats 4000000 in
theorem listP_any {w : World} {A : Option Addr} {n c : Nat} {b : List Int} {at_ : Int} (hb : Arg w A n c b) (ha : -9223372036854775808 ≤ at_ ∧ at_ ≤ 9223372036854775807) :
    Calls Try.prog 64 #[.slice A n c, .int .i64 at_, .int .u64 256, .func (.func 65) #[] #[]] w fun e w' => ∃ B m d ks, e = .returned (.tuple #[.slice B m d, .int .i64 (listP b at_).2.1, .int .i64 (listP b at_).2.2]) ∧ OwnQ w' w.heap.size B m d ks ∧ ks = (listP b at_).1 ∧ Below w.heap.size w w' := by
  have hlen := hb.rd.len
  have hn := hb.len
  obtain ⟨v, x, q1, hgc⟩ : ∃ v x q1, getCountF b at_ = (v, x, q1) := ⟨_, _, _, rfl⟩
  have C := Lib.hid (getCount_is hb ha hgc)
  have HB := Lib.hid (And.intro hb hgc)
  clear hb
  by_cases hq1 : q1 = 0
  · subst hq1
    obtain ⟨k1, k2, k3, k4, k5⟩ := getCountF_ok HB.out.1.isB (at_ := at_) (by rw [hgc])
    rw [hgc] at k1 k2 k4 k5
    simp only at k1 k2 k4 k5
    obtain ⟨N, rfl⟩ := Int.eq_ofNat_of_zero_le k1
    by_cases hbig : 256 < (N : Int)
    · have d1 : decide ((N : Int) > 256) = true := decide_eq_true hbig
      have hr := Lib.hid (show listP b at_ = ([], 0, 3) from listG_many (get := getPF b) hgc hbig)
      clear hgc hlen
      go_enter Try.func64, Try.ntmps64
      go_wp2_with (fail)
      refine C.out.mono ?_
      rintro e w1 ⟨rfl, hb1⟩
      go_wp2_with (fail)
      go_ret3
      refine ⟨none, 0, 0, [], ?_, OwnQ.nil _ _, by rw [hr.out] <;> rfl, hb1⟩
      rw [hr.out]
      rfl
    · have d1 : decide ((N : Int) > 256) = false := decide_eq_false (by omega)
      clear hgc
      have hN : N ≤ 256 := by omega
      clear hbig
      have HL := Lib.hid hlen
      have k3' : 0 ≤ x := by omega
      have G0 : GetI (getPF b) b N x 0 x [] := GetI.start (by omega) k5
      clear hlen
      go_enter Try.func64, Try.ntmps64
      go_wp2_with (fail)
      refine C.out.mono ?_
      rintro e w1 ⟨rfl, hb1⟩
      go_wp2_with (fail)
      go_loopw [1, 13, 14, 15, 16, 33] (fun a v _ _ _ i wr => ∃ (j : Nat) (at2 : Int) (B : Option Addr) (d : Nat) (ks : List Pt), j ≤ N ∧ a = .int .i64 at2 ∧ i = .int .u64 j ∧ v = .slice B j d ∧ OwnQ wr w.heap.size B j d ks ∧ GetI (getPF b) b N x j at2 ks ∧ Below w.heap.size w wr) (fun _ _ _ _ _ i _ => N - (intOf i).toNat)
      case atStart => exact ⟨0, x, none, 0, [], by omega, rfl, rfl, rfl, OwnQ.nil _ _, G0, hb1⟩
      case round =>
        clear hb1 G0
        obtain ⟨j, at2, B, d, ks, hj, rfl, rfl, rfl, ho, hG, hbel⟩ := hrel
        by_cases hlt : j < N
        · have d2 : decide ((j : Int) < (N : Int)) = true := decide_eq_true (by omega)
          obtain ⟨y, nx, q, hgy⟩ : ∃ y nx q, getPF b at2 = (y, nx, q) := ⟨_, _, _, rfl⟩
          have hat0 := hG.at0
          have hat1 := hG.at1
          have hlb := HL.out
          have G := Lib.hid (getPoint_is (HB.out.1.below hbel) (by omega) hgy)
          have hw : IntKind.u64.wrap ((j : Int) + 1) = (j : Int) + 1 := by rw [IntKind.wrap_u64]; omega
          have hdo : y.ok := by have := getPF_pt HB.out.1.isB at2; rw [hgy] at this; exact this
          have S := Lib.hid (And.intro ho (And.intro hG (And.intro hbel hgy)))
          clear ho hG hbel hgy hlb
          go_wp2_with (fail)
          refine G.out.mono ?_
          rintro e w3 ⟨rfl, hb3⟩
          have hokd := pc_ok hdo
          have sl := slot_self w3 (.cells (pc zeroPt).toArray 54) (pc y).toArray
          have hl2 := ld_point_of _ ⟨w3.heap.size, 0, none⟩ y hdo (point_at (both_row w3 (pc zeroPt).toArray 54 (pc y).toArray))
          have bw := bThen hb3 sl
          clear hb3 sl
          have o5 := S.out.1.below bw
          have hbel5 := bThen S.out.2.2.1 bw
          have hz5 := hbel5.size
          by_cases hq0 : q = 0
          · subst hq0
            have dq : ((0 : Int) != 0) = false := rfl
            have hnx := (by have := getPF_in S.out.2.2.2; exact (⟨by omega, by omega⟩ : 0 ≤ nx ∧ nx ≤ b.length))
            have hG2 := S.out.2.1.next hlt S.out.2.2.2 hnx.1 hnx.2
            have Z := Lib.hid (And.intro hG2 (And.intro o5 hbel5))
            clear hG2 hnx
            go_wp2_with (at_builtin; refine Stop.mk ?_)
            refine Stop.out ?_
            have l3 : Below ((w3.alloc (.cells (pc zeroPt).toArray 54)).setRow w3.heap.size (pc y).toArray).heap.size ((w3.alloc (.cells (pc zeroPt).toArray 54)).setRow w3.heap.size (pc y).toArray) (((w3.alloc (.cells (pc zeroPt).toArray 54)).setRow w3.heap.size (pc y).toArray).alloc (.cells (pc y).toArray 54)) := (Below.refl _ _).alloc (Nat.le_refl _) _
            have o6 := Z.out.2.1.below l3
            have hbel6 := bThen Z.out.2.2 l3
            have hz6 := hbel6.size
            have hone := one_rowQ ((w3.alloc (.cells (pc zeroPt).toArray 54)).setRow w3.heap.size (pc y).toArray) y hdo
            rw [show ((w3.alloc (.cells (pc zeroPt).toArray 54)).setRow w3.heap.size (pc y).toArray).heap.size = w3.heap.size + 1 by simp] at hone
            refine wpList_appQ _ rfl (.tmp 46) (.tmp 48) rfl w.heap.size B j d ks rfl o6 _ 1 1 [y] rfl hone rfl (fun z hz => by rcases List.mem_singleton.1 hz with rfl; exact hdo) (by omega) hz6 ?_
            intro B6 d6 w6 ho6 hg6 hB6
            clear hone l3 hl2
            have hb6 : Below w.heap.size w w6 := hbel6.grown hg6 hz6 (fun k hk => (Own.lt o6.row k hk).1)
            have W := Lib.hid (And.intro ho6 (And.intro hb6 Z.out.1))
            clear ho6 hg6 hb6 o5 hbel5 o6 hbel6 hz6 bw hz5
            go_wp2_with (fail)
            go_roundw
            case rel => exact ⟨j + 1, nx, B6, d6, _, by omega, rfl, by go_num, rfl, W.out.1, W.out.2.2, W.out.2.1⟩
            case measure => simp [intOf]; omega
          · have dq : (q == 0) = false := by simpa using hq0
            have dq2 : (q != 0) = true := by simpa using hq0
            obtain ⟨cy, yy, hst⟩ := S.out.2.1.stop hlt S.out.2.2.2 hq0
            have hr := Lib.hid (show listP b at_ = ([], 0, q) from listG_bad (get := getPF b) HB.out.2 (by omega) hst hq0)
            clear hq0 hst
            go_wp2_with (fail)
            go_ret3
            refine ⟨none, 0, 0, [], ?_, OwnQ.nil _ _, by rw [hr.out] <;> rfl, hbel5⟩
            rw [hr.out]
            rfl
        · obtain rfl : j = N := by omega
          have d2 : decide ((j : Int) < (j : Int)) = false := decide_eq_false (by omega)
          have hr : listP b at_ = (ks, at2, 0) := listG_ok (get := getPF b) HB.out.2 (by omega) hG.done
          have S := Lib.hid (And.intro ho (And.intro hr hbel))
          clear ho hG hbel hr
          go_wp2_with (fail)
          go_ret3
          refine ⟨B, j, d, ks, ?_, S.out.1, by rw [S.out.2.1], S.out.2.2⟩
          rw [S.out.2.1]
          rfl
  · have e1 : (q1 == 0) = false := by simpa using hq1
    have e2 : (q1 != 0) = true := by simpa using hq1
    have hr := Lib.hid (show listP b at_ = ([], 0, q1) from listG_err (get := getPF b) hgc hq1)
    clear hgc hq1 hlen
    go_enter Try.func64, Try.ntmps64
    go_wp2_with (fail)
    refine C.out.mono ?_
    rintro e w1 ⟨rfl, hb1⟩
    go_wp2_with (fail)
    go_ret3
    refine ⟨none, 0, 0, [], ?_, OwnQ.nil _ _, by rw [hr.out] <;> rfl, hb1⟩
    rw [hr.out]
    rfl
end Go.Proofs.Ytofclanljhfkiaa
/- undo.Read: an undo of bytes. -/
namespace Go.Proofs.Ytofclanljhfkiaa
open Go.RowKit Go.Proofs En Co
set_option linter.unusedVariables false
set_option linter.unusedSimpArgs false
set_option maxRecDepth 20000
attribute [local go_sem] nil_bytes nil_coins

section
variable {b : List Int} {cs : List Cn} {xs : List Pt} {y z q : Int}
theorem readUF_bad1 (h : listC b 0 = (cs, y, q)) (hq : q ≠ 0) : readUF b = ([], [], q) := by unfold readUF; rw [h, if_neg hq]
theorem readUF_bad2 (h : listC b 0 = (cs, y, 0)) (h2 : listP b y = (xs, z, q)) (hq : q ≠ 0) : readUF b = ([], [], q) := by
  unfold readUF
  rw [h, if_pos rfl]
  show (if (listP b y).2.2 = 0 then (if (listP b y).2.1 < b.length then ([], [], 5) else (cs, (listP b y).1, 0)) else ([], [], (listP b y).2.2)) = _
  rw [h2, if_neg hq]
theorem readUF_more (h : listC b 0 = (cs, y, 0)) (h2 : listP b y = (xs, z, 0)) (hz : z < b.length) : readUF b = ([], [], 5) := by
  unfold readUF
  rw [h, if_pos rfl]
  show (if (listP b y).2.2 = 0 then (if (listP b y).2.1 < b.length then ([], [], 5) else (cs, (listP b y).1, 0)) else ([], [], (listP b y).2.2)) = _
  rw [h2, if_pos rfl, if_pos hz]
theorem readUF_ok (h : listC b 0 = (cs, y, 0)) (h2 : listP b y = (xs, z, 0)) (hz : ¬ z < b.length) : readUF b = (cs, xs, 0) := by
  unfold readUF
  rw [h, if_pos rfl]
  show (if (listP b y).2.2 = 0 then (if (listP b y).2.1 < b.length then ([], [], 5) else (cs, (listP b y).1, 0)) else ([], [], (listP b y).2.2)) = _
  rw [h2, if_pos rfl, if_neg hz]
end
theorem getsG_at {α : Type} {get : Int → α × Int × Int} {b : List Int} (hg : ∀ a, (get a).2.2 = 0 → 0 ≤ (get a).2.1 ∧ (get a).2.1 ≤ b.length) : ∀ (k : Nat) (a : Int), 0 ≤ a → a ≤ b.length → (getsG get k a).2.2 = 0 → 0 ≤ (getsG get k a).2.1 ∧ (getsG get k a).2.1 ≤ b.length
  | 0, a, h0, h1, _ => ⟨h0, h1⟩
  | k + 1, a, h0, h1, h => by
    rw [getsG_next] at h ⊢
    split at h
    · rename_i h2
      rw [if_pos h2]
      have := hg a h2
      exact getsG_at hg k _ this.1 this.2 h
    · rename_i h2
      exact absurd h h2
theorem listG_at {α : Type} {get : Int → α × Int × Int} {b : List Int} (hB : IsB b) (hg : ∀ a, (get a).2.2 = 0 → 0 ≤ (get a).2.1 ∧ (get a).2.1 ≤ b.length) (a : Int) : 0 ≤ (listG get b a).2.1 ∧ (listG get b a).2.1 ≤ b.length := by
  unfold listG
  split
  · rename_i h1
    have k := getCountF_ok hB h1
    split
    · exact ⟨Int.le_refl 0, by show (0 : Int) ≤ _; omega⟩
    · split
      · rename_i h3
        exact getsG_at hg _ _ (by omega) k.2.2.2.2 h3
      · exact ⟨Int.le_refl 0, by show (0 : Int) ≤ _; omega⟩
  · exact ⟨Int.le_refl 0, by show (0 : Int) ≤ _; omega⟩
theorem listC_at {b : List Int} (hB : IsB b) (a : Int) : 0 ≤ (listC b a).2.1 ∧ (listC b a).2.1 ≤ b.length := listG_at hB (fun a h => by have := getCF_next hB h; exact ⟨by omega, this.2.2⟩) a
theorem listP_at {b : List Int} (hB : IsB b) (a : Int) : 0 ≤ (listP b a).2.1 ∧ (listP b a).2.1 ≤ b.length := listG_at hB (fun a h => by
  have e : getPF b a = ((getPF b a).1, (getPF b a).2.1, 0) := by rw [← h]
  have := getPF_in e
  omega) a
/-- what Read leaves -/
def ReadUE (w : World) (r : List Cn × List Pt × Int) (e : Ending) (w' : World) : Prop :=
  ∃ B m d hs B2 m2 d2, e = .returned (.tuple #[.agg #[.slice B m d, .slice B2 m2 d2], .int .i64 r.2.2]) ∧ OwnP w' w.heap.size B m d hs ∧ cns hs = r.1 ∧ OwnQ w' w.heap.size B2 m2 d2 r.2.1 ∧ Below w.heap.size w w'
theorem ReadUE.bad {w w' : World} {q : Int} {r : List Cn × List Pt × Int} {v : Value} (hr : r = ([], [], q)) (hv : v = .tuple #[.agg #[.slice none 0 0, .slice none 0 0], .int .i64 q]) (hb : Below w.heap.size w w') : ReadUE w r (.returned v) w' := by
  subst hr hv
  exact ⟨none, 0, 0, [], none, 0, 0, rfl, OwnP.nil _ _, rfl, OwnQ.nil _ _, hb⟩
/-- the two cells of a box written -/
theorem box_wrote {w w4 : World} {X : Nat} {x y : Value} (hb : Below w.heap.size w w4) (hX : w.heap.size ≤ X) (h : w4.heap[X]? = some (.cells #[x, y] 25 (0, 0))) (u v : Value) :
    ((w4.setCell ⟨X, 0, none⟩ u).setCell ⟨X, 1, none⟩ v).heap[X]? = some (.cells #[u, v] 25 (0, 0)) ∧ Below w.heap.size w ((w4.setCell ⟨X, 0, none⟩ u).setCell ⟨X, 1, none⟩ v) ∧ Spare w4 ((w4.setCell ⟨X, 0, none⟩ u).setCell ⟨X, 1, none⟩ v) 25 := by
  have s1 := Spare.set h 0 u
  have q1 := heap_setCell_same _ _ 0 _ _ u h
  have q2 := heap_setCell_same _ _ 1 _ _ v q1
  have s2 := Spare.set q1 1 v
  exact ⟨by simpa using q2, (hb.setCell hX _).setCell hX _, Nat.le_trans s1.size s2.size, fun j ys T hj hT => (s2.block j ys T ((s1.block j ys T hj hT).trans hj) hT).trans (s1.block j ys T hj hT)⟩

set_option maxRecDepth 20000 in
set_option maxHeartbeats 4000000 in
theorem readU_any {w : World} {A : Option Addr} {n c : Nat} {b : List Int} (hb : Arg w A n c b) :
    Calls Try.prog 23 #[.slice A n c] w fun e w' => ReadUE w (readUF b) e w' := by
  have hlen := hb.rd.len
  have hn := hb.len
  have f0 : (w.alloc (.cells #[.slice none 0 0, .slice none 0 0] 25)).heap[w.heap.size]? = some (.cells #[.slice none 0 0, .slice none 0 0] 25 (0, 0)) := heap_alloc_new w _
  have b0 : Below w.heap.size w (w.alloc (.cells #[.slice none 0 0, .slice none 0 0] 25)) := (Below.refl _ _).alloc (Nat.le_refl _) _
  have LC := listC_any (at_ := 0) (hb.below b0) (by decide)
  have hy := listC_at hb.isB 0
  obtain ⟨cs, y, q1, h1⟩ : ∃ cs y q1, listC b 0 = (cs, y, q1) := ⟨_, _, _, rfl⟩
  rw [h1] at LC hy
  simp only at LC hy
  have LC := Lib.hid LC
  have H := Lib.hid (And.intro hb (And.intro f0 (And.intro b0 h1)))
  clear hb f0 b0 h1
  go_enter Try.func23, Try.ntmps23
  go_wp2_with (fail)
  refine LC.out.mono ?_
  rintro e w1 ⟨B1, m1, d1, hs1, rfl, ho1, hc1, hb1⟩
  have r1 := kept H.out.2.1 hb1
  have bl1 := bThen H.out.2.2.1 hb1
  by_cases hq1 : q1 = 0
  · have dq : (q1 == 0) = true := by rw [hq1]; rfl
    have dq2 : (q1 != 0) = false := by rw [hq1]; rfl
    have LP := listP_any (at_ := y) (H.out.1.below bl1) (by omega)
    have hz := listP_at H.out.1.isB y
    obtain ⟨xs, z, q2, h2⟩ : ∃ xs z q2, listP b y = (xs, z, q2) := ⟨_, _, _, rfl⟩
    rw [h2] at LP hz
    simp only at LP hz
    have LP := Lib.hid LP
    have V := Lib.hid (And.intro (ho1.mono H.out.2.2.1.size) (And.intro hc1 (And.intro r1 (And.intro bl1 (And.intro hq1 h2)))))
    clear ho1 hc1 hb1 r1 bl1 hq1 h2
    go_wp2_with (fail)
    refine LP.out.mono ?_
    rintro e w2 ⟨B2, m2, d2, ks, rfl, ho2, hc2, hb2⟩
    have r2 := kept V.out.2.2.1 hb2
    have bl2 := bThen V.out.2.2.2.1 hb2
    have c0 := (row_cells r2 0).1
    have c1 := (row_cells r2 1).1
    have e0 := (row_cells r2 0).2
    have e1 := (row_cells r2 1).2
    by_cases hq2 : q2 = 0
    · have dp : (q2 == 0) = true := by rw [hq2]; rfl
      have dp2 : (q2 != 0) = false := by rw [hq2]; rfl
      by_cases hzn : z < (n : Int)
      · have d5 : decide (z < (n : Int)) = true := decide_eq_true hzn
        have hr : readUF b = ([], [], 5) := readUF_more (by rw [H.out.2.2.2, V.out.2.2.2.2.1]) (by rw [V.out.2.2.2.2.2, hq2]) (by rw [hlen]; exact hzn)
        have Z := Lib.hid (And.intro r2 (And.intro bl2 hr))
        clear r2 bl2 hr hq2 hzn hlen ho2 hc2 hb2
        go_wp2_with (fail)
        obtain ⟨k1, k2, _⟩ := box_wrote Z.out.2.1 (Nat.le_refl _) Z.out.1 (.slice none 0 0) (.slice none 0 0)
        exact bodyPost_ret (res_cell2 Try.results23 rfl (ld_undo _ _ _ _ k1)) rfl (ReadUE.bad Z.out.2.2 rfl k2)
      · have d5 : decide (z < (n : Int)) = false := decide_eq_false hzn
        have hr : readUF b = (cs, xs, 0) := readUF_ok (by rw [H.out.2.2.2, V.out.2.2.2.2.1]) (by rw [V.out.2.2.2.2.2, hq2]) (by rw [hlen]; exact hzn)
        have Z := Lib.hid (And.intro r2 (And.intro bl2 (And.intro hr (And.intro (V.out.1.below hb2) (And.intro (ho2.mono V.out.2.2.2.1.size) hc2)))))
        clear r2 bl2 hr hq2 hzn hlen ho2 hc2 hb2
        go_wp2_with (fail)
        obtain ⟨k1, k2, k3⟩ := box_wrote Z.out.2.1 (Nat.le_refl _) Z.out.1 (.slice B1 m1 d1) (.slice B2 m2 d2)
        refine bodyPost_ret (res_cell2 Try.results23 rfl (ld_undo _ _ _ _ k1)) rfl ?_
        rw [Z.out.2.2.1]
        exact ⟨B1, m1, d1, hs1, B2, m2, d2, rfl, Z.out.2.2.2.1.spare k3 (by decide) (by decide), V.out.2.1, by rw [← Z.out.2.2.2.2.2]; exact Z.out.2.2.2.2.1.spare k3 (by decide), k2⟩
    · have dp : (q2 == 0) = false := by simpa using hq2
      have dp2 : (q2 != 0) = true := by simpa using hq2
      have hr : readUF b = ([], [], q2) := readUF_bad2 (by rw [H.out.2.2.2, V.out.2.2.2.2.1]) V.out.2.2.2.2.2 hq2
      have Z := Lib.hid (And.intro r2 (And.intro bl2 hr))
      clear r2 bl2 hr hq2 hlen ho2 hc2 hb2
      go_wp2_with (fail)
      obtain ⟨k1, k2, _⟩ := box_wrote Z.out.2.1 (Nat.le_refl _) Z.out.1 (.slice none 0 0) (.slice none 0 0)
      exact bodyPost_ret (res_cell2 Try.results23 rfl (ld_undo _ _ _ _ k1)) rfl (ReadUE.bad Z.out.2.2 rfl k2)
  · have dq : (q1 == 0) = false := by simpa using hq1
    have dq2 : (q1 != 0) = true := by simpa using hq1
    have c0 := (row_cells r1 0).1
    have c1 := (row_cells r1 1).1
    have e0 := (row_cells r1 0).2
    have e1 := (row_cells r1 1).2
    have hr : readUF b = ([], [], q1) := readUF_bad1 H.out.2.2.2 hq1
    have Z := Lib.hid (And.intro r1 (And.intro bl1 hr))
    clear r1 bl1 hr hq1 hlen ho1 hc1 hb1
    go_wp2_with (fail)
    obtain ⟨k1, k2, _⟩ := box_wrote Z.out.2.1 (Nat.le_refl _) Z.out.1 (.slice none 0 0) (.slice none 0 0)
    exact bodyPost_ret (res_cell2 Try.results23 rfl (ld_undo _ _ _ _ k1)) rfl (ReadUE.bad Z.out.2.2 rfl k2)
end Go.Proofs.Ytofclanljhfkiaa
