/- Joined texts: TcA, TcB, TcC, TcD, TcE. -/
import Derived.Test.YtofclanljhfkiaaM20
/- The reference's put: a coin into a page. -/
namespace Go.Proofs.Ytofclanljhfkiaa
open Go.RowKit Go.Proofs En Co
set_option linter.unusedVariables false
set_option linter.unusedSimpArgs false
set_option maxRecDepth 20000
attribute [local go_sem ↓] ld_point_eq ld_coin_eq ld_hash_eq st_point_eq st_coin_eq bd_point_eq bd_coin_eq eq_point_eq ne_point_eq al_coin_eq al_point_eq bs_coin_eq
attribute [local go_sem] ld_point_run ld_coin_run ld_hash_run st_point_run st_coin_run bd_point_zero bd_coin_zero bd_point_of bd_coin_of hash_at rowIs_34 rowIs_37 rowIs_both hasAt_both cellsAt_both eq_point_run ne_point_run guard_pt al_coin_run al_point_run al_coin_row al_point_row nil_bytes nil_coins bs_coin_run

theorem takeWhile_first {p : Pt} : ∀ {l : List Cn} {j : Nat}, j ≤ l.length → (∀ k x, k < j → l[k]? = some x → lessF x.p p = true) → (∀ x, l[j]? = some x → lessF x.p p = false) →
    l.takeWhile (fun x => lessF x.p p) = l.take j ∧ l.dropWhile (fun x => lessF x.p p) = l.drop j
  | [], j, hj, _, _ => by simp
  | a :: r, 0, _, _, h2 => by
    have := h2 a rfl
    rw [List.takeWhile_cons, List.dropWhile_cons]
    simp [this]
  | a :: r, j + 1, hj, h1, h2 => by
    have h0 := h1 0 a (by omega) rfl
    obtain ⟨e1, e2⟩ := takeWhile_first (l := r) (j := j) (by simpa using hj) (fun k x hk hx => h1 (k + 1) x (by omega) hx) (fun x hx => h2 x hx)
    rw [List.takeWhile_cons, List.dropWhile_cons]
    simp [h0, e1, e2]
theorem cell_at {w : World} {g : Nat} {cs : Array Value} {t : TypeId} (h : w.heap[g]? = some (.cells cs t (0, 0))) (j : Nat) : w.cell? ((⟨g, 0, none⟩ : Addr).add j) = cs[j]? := by
  have e : (⟨g, 0, none⟩ : Addr).add j = ⟨g, j, none⟩ := by
    unfold Addr.add
    by_cases hj : j = 0
    · subst hj; rfl
    · rw [if_neg hj, Nat.zero_add]
  rw [e]
  exact (row_cells h j).1
theorem coin_at {w : World} {g : Nat} {m : Cm} {t : TypeId} (h : w.heap[g]? = some (.cells (cc m).toArray t (0, 0))) : ∀ j v, (cc m)[j]? = some v → w.cell? ((⟨g, 0, none⟩ : Addr).add j) = some v := fun j v hv => (cell_at h j).trans (by simpa using hv)
theorem pc_cc {w : World} {m : Cm} {x : Addr} (h : ∀ j v, (cc m)[j]? = some v → w.cell? (x.add j) = some v) : ∀ j u, (pc m.c.p)[j]? = some u → w.cell? (x.add j) = some u := fun j u hu => h j u (by
  have := (List.getElem?_eq_some_iff.1 hu).1
  unfold cc
  rw [List.getElem?_append_left this]
  exact hu)
theorem ins_done {w w' : World} {base b2 n c q k3 j : Nat} {A A3 : Option Addr} {hs : List Cm} {m : Cm} (hx : FirmP w base ⟨A, n, c, hs⟩) (hm : m.ok w) (hf : FirmL w base m) (hj : j ≤ n) (hq : q = j + 1 + (n - j))
    (ho : Own w' b2 57 37 (fun _ => True) A3 q k3 ((pcs hs).take (j * 37) ++ pcs [m] ++ (pcs hs).drop (j * 37))) (hb : Below w.heap.size w w')
    (h1 : ∀ k x, k < j → (cns hs)[k]? = some x → lessF x.p m.c.p = true) (h2 : ∀ x, (cns hs)[j]? = some x → lessF x.p m.c.p = false) :
    ∃ y : Pg, Ending.returned (.slice A3 q k3) = .returned (.slice y.A y.n y.c) ∧ cns y.hs = insF (cns hs) m.c ∧ FirmP w' base y ∧ Below w.heap.size w w' := by
  have hl : hs.length = n := hx.arg.len
  have hpok := hx.arg.pok
  have e : (pcs hs).take (j * 37) ++ pcs [m] ++ (pcs hs).drop (j * 37) = pcs (hs.take j ++ m :: hs.drop j) := by
    rw [pcs_take hpok, pcs_drop hpok, ← pcs_append, ← pcs_append, List.append_assoc]; rfl
  rw [e] at ho
  have hmem : ∀ y ∈ hs.take j ++ m :: hs.drop j, y.ok w ∧ FirmL w base y := by
    intro y hy
    rcases List.mem_append.1 hy with hy | hy
    · exact ⟨hx.arg.ok y (List.mem_of_mem_take hy), hx.lock y (List.mem_of_mem_take hy)⟩
    · rcases List.mem_cons.1 hy with rfl | hy
      · exact ⟨hm, hf⟩
      · exact ⟨hx.arg.ok y (List.mem_of_mem_drop hy), hx.lock y (List.mem_of_mem_drop hy)⟩
  refine ⟨⟨A3, q, k3, hs.take j ++ m :: hs.drop j⟩, rfl, ?_, ⟨⟨ho.rd, fun y hy => (hmem y hy).1.below hb, ?_, (Own.len_cap ho).1, (Own.len_cap ho).2⟩, Firm.own ho (by decide) (by decide) (by decide) (by decide) (by decide), fun y hy => (hmem y hy).2.below hb⟩, hb⟩
  · obtain ⟨e1, e2⟩ := takeWhile_first (l := cns hs) (p := m.c.p) (j := j) (by rw [cns_length]; omega) h1 h2
    unfold insF
    rw [e1, e2]
    unfold cns
    rw [List.map_append, List.map_cons, List.map_take, List.map_drop]
  · show (hs.take j ++ m :: hs.drop j).length = q
    rw [List.length_append, List.length_cons, List.length_take, List.length_drop]; omega

set_option maxRecDepth 20000 in
set_option maxHeartbeats 4000000 in
theorem rins_m {w : World} {base : Nat} {x : Pg} (hx : FirmP w base x) (m : Cm) (hm : m.ok w) (hf : FirmL w base m) (hb : x.n ≤ 1000000) :
    Calls Try.prog 92 #[.slice x.A x.n x.c, .agg (cc m).toArray] w fun e w' => ∃ y : Pg, e = .returned (.slice y.A y.n y.c) ∧ cns y.hs = insF (cns x.hs) m.c ∧ FirmP w' base y ∧ Below w.heap.size w w' := by
  obtain ⟨A, n, c, hs⟩ := x
  have hxl : hs.length = n := hx.arg.len
  have hxc : n ≤ c := hx.arg.cap
  have hxm : c ≤ maxLen := hx.arg.max
  have hb : n ≤ 1000000 := hb
  have hmx : c ≤ 9223372036854775807 := by unfold maxLen at hxm; omega
  have r0 : (w.alloc (.cells (cc m).toArray 57)).heap[w.heap.size]? = some (.cells (cc m).toArray 57 (0, 0)) := heap_alloc_new w _
  have b0 : Below w.heap.size w (w.alloc (.cells (cc m).toArray 57)) := (Below.refl _ _).alloc (Nat.le_refl _) _
  have HT := Lib.hid (And.intro hx (And.intro hm hf))
  have S0 := Lib.hid (And.intro r0 b0)
  have hokm := cc_ok hm.c.p
  clear hx hm hf r0 b0
  go_enter Try.func92, Try.ntmps92
  go_wp2_with (fail)
  go_loopw [6] (fun i wr => ∃ j : Nat, j ≤ n ∧ i = .int .i64 j ∧ (∀ k d, k < j → (cns hs)[k]? = some d → lessF d.p m.c.p = true) ∧ Below w.heap.size w wr ∧ wr.heap[w.heap.size]? = some (.cells (cc m).toArray 57 (0, 0))) (fun i _ => n - (intOf i).toNat)
  case atStart => exact ⟨0, by omega, rfl, fun k d hk => by omega, S0.out.2, S0.out.1⟩
  case round =>
    obtain ⟨j, hj, rfl, hless, hbel, hrow⟩ := hrel
    have hglt : w.heap.size < wr.heap.size := (Array.getElem?_eq_some_iff.1 hrow).1
    have i1 : (0 : Int) ≤ (j : Int) := by omega
    have i3 : (j : Int) ≤ (c : Int) := by omega
    have i4 : (j : Int) ≤ (n : Int) := by omega
    have i5 : (n : Int) ≤ (c : Int) := by omega
    by_cases hlt : j < n
    · obtain ⟨ad, mj, hA, hmj, hok, hbk, hcm⟩ := (HT.out.1.arg.below hbel).at_ hlt
      obtain rfl : A = some ad := hA
      have hmj : hs[j]? = some mj := hmj
      have d1 : decide ((j : Int) < (n : Int)) = true := decide_eq_true (by omega)
      have i2 : (j : Int) < (n : Int) := by omega
      have hS1 : StLL (ad.add (j * 37)) mj.c.p ⟨w.heap.size, 0, none⟩ m.c.p wr.drew := StLL.of (Below.refl _ _).drew hok.c.p (by rw [block_add]; exact hbk) (pc_cc hcm) HT.out.2.1.c.p hglt (pc_cc (coin_at hrow))
      have hcn : (cns hs)[j]? = some mj.c := by unfold cns; rw [List.getElem?_map, hmj]; rfl
      obtain ⟨r, hr⟩ : ∃ r, lessF mj.c.p m.c.p = r := ⟨_, rfl⟩
      have BB := Lib.hid (And.intro hok (And.intro hbk (And.intro (pc_cc hcm) (And.intro (pc_cc (coin_at hrow)) hr))))
      have BC := Lib.hid hcn
      have BR := Lib.hid hrow
      have BL := Lib.hid hbel
      have BF := Lib.hid hless
      have hcl2 : ¬ (c : Int) = (j : Int) := by omega
      clear hok hbk hcm hmj hcn hrow hbel hless
      cases r with
      | true =>
        clear hr
        go_wp2_with (fail)
        go_region_held3 (fun w' => StLL (ad.add (j * 37)) mj.c.p ⟨w.heap.size, 0, none⟩ m.c.p w') (first | exact hS2 | exact hS1)
          (first | (go_at_call 35; (with_reducible refine (rless_is BB.out.1.c.p HT.out.2.1.c.p BB.out.2.2.2.2).mono ?_); rintro e w12 ⟨rfl, hb12⟩; have hS2 : StLL (ad.add (j * 37)) mj.c.p ⟨w.heap.size, 0, none⟩ m.c.p w12 := StLL.of ((Below.refl _ _).drew.trans hb12) BB.out.1.c.p (by rw [block_add]; exact BB.out.2.1) BB.out.2.2.1 HT.out.2.1.c.p hglt BB.out.2.2.2.1))
        rename_i hHeldX
        have hb13 := (Below.refl wr.heap.size wr).drew.trans hb12
        clear hHeldX hS1 hS2 hb12
        have B13 := Lib.hid hb13
        clear hb13
        go_wp2_with (fail)
        go_roundw
        case rel =>
          refine ⟨j + 1, by omega, by go_num, fun k d hk hd => ?_, bThen BL.out B13.out, kept BR.out B13.out⟩
          by_cases hkj : k < j
          · exact BF.out k d hkj hd
          · obtain rfl : k = j := by omega
            obtain rfl : mj.c = d := Option.some.inj (BC.out.symm.trans hd)
            exact BB.out.2.2.2.2
        case measure => simp [intOf]; omega
      | false =>
        clear hr
        go_wp2_with (fail)
        go_region_held3 (fun w' => StLL (ad.add (j * 37)) mj.c.p ⟨w.heap.size, 0, none⟩ m.c.p w') (first | exact hS2 | exact hS1)
          (first | (go_at_call 35; (with_reducible refine (rless_is BB.out.1.c.p HT.out.2.1.c.p BB.out.2.2.2.2).mono ?_); rintro e w12 ⟨rfl, hb12⟩; have hS2 : StLL (ad.add (j * 37)) mj.c.p ⟨w.heap.size, 0, none⟩ m.c.p w12 := StLL.of ((Below.refl _ _).drew.trans hb12) BB.out.1.c.p (by rw [block_add]; exact BB.out.2.1) BB.out.2.2.1 HT.out.2.1.c.p hglt BB.out.2.2.2.1))
        rename_i hHeldX
        have hb13 := (Below.refl wr.heap.size wr).drew.trans hb12
        clear hHeldX hS1 hS2 hb12
        have hless := BF.out
        have hbel := bThen BL.out hb13
        have hrow := kept BR.out hb13
        clear hb13
        have HP : Part.ok w 37 ⟨some ad, n, c, pcs hs⟩ := ⟨HT.out.1.arg.rd, pcs_one⟩
        have B1 := Lib.hid (hbel)
        have R1 := Lib.hid (hrow)
        have NL := Lib.hid (fun (d : Cn) (hd : (cns hs)[j]? = some d) => show lessF d.p m.c.p = false by obtain rfl : mj.c = d := Option.some.inj (BC.out.symm.trans hd); exact BB.out.2.2.2.2)
        have HLS := Lib.hid hless
        have PP := Lib.hid (HP.pre (k := j) (by omega))
        have PQ0 := HP.post (k := j) (by omega) (by omega)
        rw [if_neg (by omega)] at PQ0
        have PQ : Part.ok w 37 ⟨some (ad.add (j * 37)), n - j, c - j, (pcs hs).drop (j * 37)⟩ := PQ0
        have PQ := Lib.hid PQ
        clear HP PQ0 hless hbel hrow
        go_wp2_with (at_builtin; refine Stop.mk ?_)
        refine Stop.out ?_
        refine appC _ rfl (.tmp 23) (.tmp 26) rfl w.heap.size none 0 0 [] rfl (Own.nil _ _ _ _ _) ⟨some ad, j, c, (pcs hs).take (j * 37)⟩ rfl (PP.out.below B1.out) (by show 0 + j ≤ _; omega) B1.out.size ?_
        intro A1 k1 w1 ho1 hg1
        have e1 : 0 + (⟨some ad, j, c, (pcs hs).take (j * 37)⟩ : Part).n = j := Nat.zero_add j
        rw [e1, List.nil_append] at ho1
        rw [e1]
        have b1 := B1.out.grown hg1 B1.out.size (fun g hg => by cases hg)
        have r1 := (hg1.block _ (Array.getElem?_eq_some_iff.1 R1.out).1 (fun e => by cases e)).trans R1.out
        obtain ⟨⟨k37, c37⟩, _⟩ := coin_has HT.out.2.1.c.p r1
        have orow := one_row w1 m HT.out.2.1.c.p
        have l1 : Below w1.heap.size w1 (w1.alloc (.cells (cc m).toArray 57)) := (Below.refl _ _).alloc (Nat.le_refl _) _
        have V := Lib.hid (And.intro (ho1.below l1) (And.intro (bThen b1 l1) orow))
        clear ho1 hg1 b1 r1 orow l1
        go_wp2_with (at_builtin; refine Stop.mk ?_)
        refine Stop.out ?_
        refine appC _ rfl (.tmp 28) (.tmp 30) rfl w.heap.size A1 j k1 _ rfl V.out.1 ⟨some ⟨w1.heap.size, 0, none⟩, 1, 1, pcs [m]⟩ rfl ⟨V.out.2.2, pcs_one⟩ (by show j + 1 ≤ _; omega) V.out.2.1.size ?_
        intro A2 k2 w2 ho2 hg2
        have b2 := V.out.2.1.grown hg2 V.out.2.1.size (fun g hg => (Own.lt V.out.1 g hg).1)
        have U := Lib.hid (And.intro ho2 b2)
        clear ho2 hg2 b2 k37 c37
        go_wp2_with (at_builtin; refine Stop.mk ?_)
        refine Stop.out ?_
        refine appC _ rfl (.tmp 32) (.tmp 35) rfl w.heap.size A2 (j + 1) k2 _ rfl U.out.1 ⟨some (ad.add (j * 37)), (n - j), (c - j), (pcs hs).drop (j * 37)⟩ rfl (PQ.out.below U.out.2) (by show j + 1 + (n - j) ≤ _; omega) U.out.2.size ?_
        intro A3 k3 w3 ho3 hg3
        have b3 := U.out.2.grown hg3 U.out.2.size (fun g hg => (Own.lt U.out.1 g hg).1)
        have Z := Lib.hid (And.intro ho3 b3)
        clear ho3 hg3 b3
        go_wp2_with (fail)
        go_ret
        exact ins_done HT.out.1 HT.out.2.1 HT.out.2.2 (by omega) (by show j + 1 + (n - j) = _; omega) Z.out.1 Z.out.2 HLS.out NL.out
    · obtain rfl : j = n := by omega
      have d1 : decide ((j : Int) < (j : Int)) = false := decide_eq_false (by omega)
      have hno : ∀ d : Cn, (cns hs)[j]? = some d → lessF d.p m.c.p = false := fun d hd => by
        have := (List.getElem?_eq_some_iff.1 hd).1
        rw [cns_length] at this; omega
      have NN := Lib.hid hno
      clear hno
      go_wp2_with (fail)
      go_quiet (fail)
      have hb13 := belN (Below.refl wr.heap.size wr) ‹Nat›
      have hbel2 := bThen hbel hb13
      have hrow2 := kept hrow hb13
      clear hbel hrow hb13
      by_cases hcl : c = j
      · subst hcl
        have HP : Part.ok w 37 ⟨A, c, c, pcs hs⟩ := ⟨HT.out.1.arg.rd, pcs_one⟩
        have B1 := Lib.hid (hbel2)
        have R1 := Lib.hid (hrow2)
        have NL := Lib.hid (NN.out)
        have HLS := Lib.hid hless
        have PP := Lib.hid (HP.pre (k := c) (by omega))
        have PQ0 := HP.post (k := c) (by omega) (by omega)
        have PQ : Part.ok w 37 ⟨A, 0, 0, (pcs hs).drop (c * 37)⟩ := by simpa using PQ0
        have PQ := Lib.hid PQ
        clear HP PQ0 hless hbel2 hrow2
        go_wp2_with (at_builtin; refine Stop.mk ?_)
        refine Stop.out ?_
        refine appC _ rfl (.tmp 23) (.tmp 26) rfl w.heap.size none 0 0 [] rfl (Own.nil _ _ _ _ _) ⟨A, c, c, (pcs hs).take (c * 37)⟩ rfl (PP.out.below B1.out) (by show 0 + c ≤ _; omega) B1.out.size ?_
        intro A1 k1 w1 ho1 hg1
        have e1 : 0 + (⟨A, c, c, (pcs hs).take (c * 37)⟩ : Part).n = c := Nat.zero_add c
        rw [e1, List.nil_append] at ho1
        rw [e1]
        have b1 := B1.out.grown hg1 B1.out.size (fun g hg => by cases hg)
        have r1 := (hg1.block _ (Array.getElem?_eq_some_iff.1 R1.out).1 (fun e => by cases e)).trans R1.out
        obtain ⟨⟨k37, c37⟩, _⟩ := coin_has HT.out.2.1.c.p r1
        have orow := one_row w1 m HT.out.2.1.c.p
        have l1 : Below w1.heap.size w1 (w1.alloc (.cells (cc m).toArray 57)) := (Below.refl _ _).alloc (Nat.le_refl _) _
        have V := Lib.hid (And.intro (ho1.below l1) (And.intro (bThen b1 l1) orow))
        clear ho1 hg1 b1 r1 orow l1
        go_wp2_with (at_builtin; refine Stop.mk ?_)
        refine Stop.out ?_
        refine appC _ rfl (.tmp 28) (.tmp 30) rfl w.heap.size A1 c k1 _ rfl V.out.1 ⟨some ⟨w1.heap.size, 0, none⟩, 1, 1, pcs [m]⟩ rfl ⟨V.out.2.2, pcs_one⟩ (by show c + 1 ≤ _; omega) V.out.2.1.size ?_
        intro A2 k2 w2 ho2 hg2
        have b2 := V.out.2.1.grown hg2 V.out.2.1.size (fun g hg => (Own.lt V.out.1 g hg).1)
        have U := Lib.hid (And.intro ho2 b2)
        clear ho2 hg2 b2 k37 c37
        go_wp2_with (at_builtin; refine Stop.mk ?_)
        refine Stop.out ?_
        refine appC _ rfl (.tmp 32) (.tmp 35) rfl w.heap.size A2 (c + 1) k2 _ rfl U.out.1 ⟨A, 0, 0, (pcs hs).drop (c * 37)⟩ rfl (PQ.out.below U.out.2) (by show c + 1 + 0 ≤ _; omega) U.out.2.size ?_
        intro A3 k3 w3 ho3 hg3
        have b3 := U.out.2.grown hg3 U.out.2.size (fun g hg => (Own.lt U.out.1 g hg).1)
        have Z := Lib.hid (And.intro ho3 b3)
        clear ho3 hg3 b3
        go_wp2_with (fail)
        go_ret
        exact ins_done HT.out.1 HT.out.2.1 HT.out.2.2 (by omega) (by show c + 1 + 0 = _; omega) Z.out.1 Z.out.2 HLS.out NL.out
      · have hcl2 : ¬ (c : Int) = (j : Int) := by omega
        have HP : Part.ok w 37 ⟨A, j, c, pcs hs⟩ := ⟨HT.out.1.arg.rd, pcs_one⟩
        have B1 := Lib.hid (hbel2)
        have R1 := Lib.hid (hrow2)
        have NL := Lib.hid (NN.out)
        have HLS := Lib.hid hless
        have PP := Lib.hid (HP.pre (k := j) (by omega))
        have PQ0 := HP.post (k := j) (by omega) (by omega)
        have PQ : Part.ok w 37 ⟨A.map (fun x => x.add (j * 37)), 0, c - j, (pcs hs).drop (j * 37)⟩ := by simpa [hcl] using PQ0
        have PQ := Lib.hid PQ
        clear HP PQ0 hless hbel2 hrow2
        go_wp2_with (at_builtin; refine Stop.mk ?_)
        refine Stop.out ?_
        refine appC _ rfl (.tmp 23) (.tmp 26) rfl w.heap.size none 0 0 [] rfl (Own.nil _ _ _ _ _) ⟨A, j, c, (pcs hs).take (j * 37)⟩ rfl (PP.out.below B1.out) (by show 0 + j ≤ _; omega) B1.out.size ?_
        intro A1 k1 w1 ho1 hg1
        have e1 : 0 + (⟨A, j, c, (pcs hs).take (j * 37)⟩ : Part).n = j := Nat.zero_add j
        rw [e1, List.nil_append] at ho1
        rw [e1]
        have b1 := B1.out.grown hg1 B1.out.size (fun g hg => by cases hg)
        have r1 := (hg1.block _ (Array.getElem?_eq_some_iff.1 R1.out).1 (fun e => by cases e)).trans R1.out
        obtain ⟨⟨k37, c37⟩, _⟩ := coin_has HT.out.2.1.c.p r1
        have orow := one_row w1 m HT.out.2.1.c.p
        have l1 : Below w1.heap.size w1 (w1.alloc (.cells (cc m).toArray 57)) := (Below.refl _ _).alloc (Nat.le_refl _) _
        have V := Lib.hid (And.intro (ho1.below l1) (And.intro (bThen b1 l1) orow))
        clear ho1 hg1 b1 r1 orow l1
        go_wp2_with (at_builtin; refine Stop.mk ?_)
        refine Stop.out ?_
        refine appC _ rfl (.tmp 28) (.tmp 30) rfl w.heap.size A1 j k1 _ rfl V.out.1 ⟨some ⟨w1.heap.size, 0, none⟩, 1, 1, pcs [m]⟩ rfl ⟨V.out.2.2, pcs_one⟩ (by show j + 1 ≤ _; omega) V.out.2.1.size ?_
        intro A2 k2 w2 ho2 hg2
        have b2 := V.out.2.1.grown hg2 V.out.2.1.size (fun g hg => (Own.lt V.out.1 g hg).1)
        have U := Lib.hid (And.intro ho2 b2)
        clear ho2 hg2 b2 k37 c37
        go_wp2_with (at_builtin; refine Stop.mk ?_)
        refine Stop.out ?_
        refine appC _ rfl (.tmp 32) (.tmp 35) rfl w.heap.size A2 (j + 1) k2 _ rfl U.out.1 ⟨(A.map (fun x => x.add (j * 37))), 0, (c - j), (pcs hs).drop (j * 37)⟩ rfl (PQ.out.below U.out.2) (by show j + 1 + 0 ≤ _; omega) U.out.2.size ?_
        intro A3 k3 w3 ho3 hg3
        have b3 := U.out.2.grown hg3 U.out.2.size (fun g hg => (Own.lt U.out.1 g hg).1)
        have Z := Lib.hid (And.intro ho3 b3)
        clear ho3 hg3 b3
        go_wp2_with (fail)
        go_ret
        exact ins_done HT.out.1 HT.out.2.1 HT.out.2.2 (by omega) (by show j + 1 + 0 = _; omega) Z.out.1 Z.out.2 HLS.out NL.out
end Go.Proofs.Ytofclanljhfkiaa
/- The reference's pages: pieces of them. -/
namespace Go.Proofs.Ytofclanljhfkiaa
open Go.RowKit Go.Proofs En Co
set_option linter.unusedVariables false
set_option linter.unusedSimpArgs false
set_option maxRecDepth 20000

theorem FirmP.pre {w : World} {base n c : Nat} {A : Option Addr} {hs : List Cm} (h : FirmP w base ⟨A, n, c, hs⟩) {k : Nat} (hk : k ≤ n) : FirmP w base ⟨A, k, c, hs.take k⟩ :=
  ⟨ArgP.pre h.arg hk, h.row, fun m hm => h.lock m (List.mem_of_mem_take hm)⟩
theorem FirmP.post {w : World} {base n c : Nat} {ad : Addr} {hs : List Cm} (h : FirmP w base ⟨some ad, n, c, hs⟩) {k : Nat} (hk : k < n) : FirmP w base ⟨some (ad.add (k * 37)), n - k, c - k, hs.drop k⟩ := by
  have hc : n ≤ c := h.arg.cap
  have hl : hs.length = n := h.arg.len
  have hm : c ≤ maxLen := h.arg.max
  have hp := Part.ok.post (size := 37) (A := some ad) (n := n) (c := c) (cs := pcs hs) ⟨h.arg.rd, pcs_one⟩ (k := k) (by omega) hc
  have hp1 := hp.1
  rw [if_neg (by omega)] at hp1
  have e : (pcs hs).drop (k * 37) = pcs (hs.drop k) := pcs_drop h.arg.pok k
  refine ⟨⟨?_, fun m hm => h.arg.ok m (List.mem_of_mem_drop hm), ?_, ?_, ?_⟩, fun j hj => h.row j ?_, fun m hm => h.lock m (List.mem_of_mem_drop hm)⟩
  · show Rd w 37 (some (ad.add (k * 37))) (n - k) (pcs (hs.drop k))
    rw [← e]; exact hp1
  · show (hs.drop k).length = n - k
    rw [List.length_drop, hl]
  · show n - k ≤ c - k; omega
  · show c - k ≤ maxLen; omega
  · show blk (some ad) = some j
    have hj : blk (some (ad.add (k * 37))) = some j := hj
    simpa [blk, block_add] using hj
theorem firm_one {w : World} {base : Nat} {m : Cm} (hm : m.ok w) (hf : FirmL w base m) : FirmP (w.alloc (.cells (cc m).toArray 57)) base ⟨some ⟨w.heap.size, 0, none⟩, 1, 1, [m]⟩ := by
  have hb : Below w.heap.size w (w.alloc (.cells (cc m).toArray 57)) := (Below.refl _ _).alloc (Nat.le_refl _) _
  refine ⟨⟨one_row w m hm.c.p, fun x hx => ?_, rfl, Nat.le_refl _, show 1 ≤ maxLen by decide⟩, ?_, fun x hx => ?_⟩
  · rcases List.mem_singleton.1 hx with rfl; exact hm.below hb
  · have h := Own.lit (base := 0) (e := 57) (size := 37) (G := fun _ => True) w (cc m).toArray 1 (Nat.zero_le _) (by decide) (by simpa using cc_length hm.c.p) (fun _ _ => trivial)
    exact Firm.own h (by decide) (by decide) (by decide) (by decide) (by decide)
  · rcases List.mem_singleton.1 hx with rfl; exact hf.below hb
theorem getM_none {ps : List (List Cn)} {p : Pt} (h : findF ps p = none) : getM ps p = (zeroCn, 6) := by unfold getM; rw [h]
theorem getM_some {ps : List (List Cn)} {p : Pt} {c : Cn} (h : findF ps p = some c) : getM ps p = (c, 0) := by unfold getM; rw [h]
theorem putM_may {ps : List (List Cn)} {c : Cn} (h : mayO c.v c.l = false) : putM ps c = (ps, 2) := by unfold putM; rw [h]; rfl
theorem putM_there {ps : List (List Cn)} {c d : Cn} (h : mayO c.v c.l = true) (h2 : findF ps c.p = some d) : putM ps c = (ps, 7) := by unfold putM; rw [if_pos h, h2]; rfl
theorem putM_most {ps : List (List Cn)} {c : Cn} (h : mayO c.v c.l = true) (h2 : findF ps c.p = none) (h3 : 2000 ≤ ps.flatten.length) : putM ps c = (ps, 3) := by unfold putM; rw [if_pos h, h2, if_neg (by decide), if_pos h3]
theorem putM_new {ps : List (List Cn)} {c : Cn} (h : mayO c.v c.l = true) (h2 : findF ps c.p = none) (h3 : ¬ 2000 ≤ ps.flatten.length) : putM ps c = (putF2 ps c, 0) := by unfold putM; rw [if_pos h, h2, if_neg (by decide), if_neg h3]

/-- what the reference's Put answers -/
def rputEnd (w w' : World) (e : Ending) (base g : Nat) (Q : Option Addr) (r : List (List Cn) × Int) : Prop :=
  e = .returned (.int .i64 r.2) ∧ ∃ Q', RT w' base g Q' r.1 ∧ Only w w' g none ∧ Kept w Q Q'
theorem rputEnd.same {w w' : World} {base g : Nat} {Q : Option Addr} {ps : List (List Cn)} {r : List (List Cn) × Int} {e : Int} (h : RT w base g Q ps) (hb : Below w.heap.size w w') (hr : r = (ps, e)) : rputEnd w w' (.returned (.int .i64 e)) base g Q r := by
  subst hr
  exact ⟨rfl, Q, h.below hb, Only.of hb, .inl rfl⟩
end Go.Proofs.Ytofclanljhfkiaa
/- The reference's Put. -/
namespace Go.Proofs.Ytofclanljhfkiaa
open Go.RowKit Go.Proofs En Co
set_option linter.unusedVariables false
set_option linter.unusedSimpArgs false
set_option maxRecDepth 20000
attribute [local go_sem ↓] ld_point_eq ld_coin_eq ld_hash_eq st_point_eq st_coin_eq bd_point_eq bd_coin_eq eq_point_eq ne_point_eq al_coin_eq al_point_eq bs_coin_eq
attribute [local go_sem] ld_point_run ld_coin_run ld_hash_run st_point_run st_coin_run bd_point_zero bd_coin_zero bd_point_of bd_coin_of hash_at rowIs_34 rowIs_37 rowIs_both hasAt_both cellsAt_both eq_point_run ne_point_run guard_pt al_coin_run al_point_run al_coin_row al_point_row nil_bytes nil_coins bs_coin_run

theorem insF_len (l : List Cn) (c : Cn) : (insF l c).length = l.length + 1 := by
  have h : (l.takeWhile (fun x => lessF x.p c.p)).length + (l.dropWhile (fun x => lessF x.p c.p)).length = l.length := by
    rw [← List.length_append, List.takeWhile_append_dropWhile]
  unfold insF
  rw [List.length_append, List.length_cons]; omega
theorem rput_done {w w8 : World} {base g N N1 q k : Nat} {Q A : Option Addr} {ps : List (List Cn)} {gs mid : List Pg} {c : Cn} {xs : Array Value} (hlow : base ≤ g) (hbase : base ≤ w.heap.size) (hg : w8.heap[g]? = some (.cells xs 124 (0, 0))) (hxs : xs.size = 1) (hb : Below w.heap.size w w8) (hgs : pgsOf gs = ps) (hfs : ∀ x ∈ gs, FirmP w base x) (hmid : ∀ y ∈ mid, FirmP w8 base y) (hmc : pgsOf mid = cutF (insF (ps.getD N []) c)) (hN : pageNk ps c.p ps.length = N) (hz : ps.length ≠ 0) (hN1 : N + 1 = N1)
    (ho : Own w8 w.heap.size 22 1 (fun _ => True) A q k (((gs.map Pg.cell).take N ++ mid.map Pg.cell) ++ (gs.map Pg.cell).drop N1)) (hput : putM ps c = (putF2 ps c, 0)) :
    rputEnd w (w8.setCell ⟨g, 0, none⟩ (.slice A q k)) (.returned (.int .i64 0)) base g Q (putM ps c) := by
  have e : ((gs.map Pg.cell).take N ++ mid.map Pg.cell) ++ (gs.map Pg.cell).drop N1 = (gs.take N ++ mid ++ gs.drop N1).map Pg.cell := by
    rw [List.map_append, List.map_append, List.map_take, List.map_drop]
  rw [e] at ho
  have hRT := RT.set (base := base) (g := g) hlow hg hxs ho hbase (fun x hx => by
    rcases List.mem_append.1 hx with hx | hx
    · rcases List.mem_append.1 hx with hx | hx
      · exact (hfs x (List.mem_of_mem_take hx)).below hb
      · exact hmid x hx
    · exact (hfs x (List.mem_of_mem_drop hx)).below hb)
  have e2 : pgsOf (gs.take N ++ mid ++ gs.drop N1) = putF2 ps c := by
    unfold putF2
    rw [if_neg hz, hN, ← hmc, hN1, ← hgs]
    unfold pgsOf
    rw [List.map_append, List.map_append, List.map_take, List.map_drop]
  rw [e2] at hRT
  rw [hput]
  exact ⟨rfl, A, hRT, (Only.of hb).setCell (.inl rfl) _, .inr fun j hj => (Own.lt ho j hj).1⟩

set_option maxRecDepth 20000 in
set_option maxHeartbeats 4000000 in
theorem rput_m {w : World} {base g : Nat} {Q : Option Addr} {ps : List (List Cn)} (h : RT w base g Q ps) (hpos : ∀ l ∈ ps, 0 < l.length) (hmost : ps.flatten.length ≤ 2000) (hmany : ps.length ≤ 2000) (m : Cm) (hm : m.ok w) (hf : FirmL w base m) :
    Calls Try.prog 55 #[ptr g, .agg (cc m).toArray] w fun e w' => rputEnd w w' e base g Q (putM ps m.c) := by
  have hlow := h.low
  obtain ⟨np, cp, gs, h1, h2, h3, h4, h5, h6, h7⟩ := h.ex
  have hgl := (Array.getElem?_eq_some_iff.1 h1).1
  have hnp : gs.length = np := by have := h2.1; rw [List.length_map] at this; omega
  have hnp2 : np ≤ 2000 := by rw [← h6, pgsOf_length] at hmany; omega
  have r0 : (w.alloc (.cells (cc m).toArray 57)).heap[w.heap.size]? = some (.cells (cc m).toArray 57 (0, 0)) := heap_alloc_new w _
  have b0 : Below w.heap.size w (w.alloc (.cells (cc m).toArray 57)) := (Below.refl _ _).alloc (Nat.le_refl _) _
  obtain ⟨⟨q37, c37⟩, _⟩ := coin_has hm.c.p r0
  have hokm := cc_ok hm.c.p
  have hokz := cc_ok (m := zm) zeroPt_ok
  have MAY := Lib.hid (rmay06_any m _ (hm.below b0))
  have H := Lib.hid (And.intro h (And.intro hm (And.intro hf (And.intro r0 b0))))
  have HX := Lib.hid (And.intro h1 (And.intro h2 (And.intro h5 (And.intro h6 (And.intro h7 hpos)))))
  clear h hm hf h1 h2 h5 h6 h7 r0 b0 hpos
  obtain ⟨my, hmy⟩ : ∃ my, mayO m.c.v m.c.l = my := ⟨_, rfl⟩
  rw [hmy] at MAY
  have MY := Lib.hid hmy
  clear hmy
  go_enter Try.func55, Try.ntmps55
  go_wp2_with (fail)
  refine MAY.out.mono ?_
  rintro e w2 ⟨rfl, hb2⟩
  have b2 := bThen H.out.2.2.2.2 hb2
  have r2 := kept H.out.2.2.2.1 hb2
  clear q37 c37 hb2
  cases my with
  | false =>
    have B2 := Lib.hid b2
    clear b2 r2
    go_wp2_with (fail)
    go_ret
    exact rputEnd.same H.out.1 B2.out (putM_may MY.out)
  | true =>
    obtain ⟨_, q34, c34⟩ := coin_has H.out.2.1.c.p r2
    have GT := rget_m (H.out.1.below b2) (by omega) (by omega) m.c.p H.out.2.1.c.p
    obtain ⟨fo, hfo⟩ : ∃ fo, findF ps m.c.p = fo := ⟨_, rfl⟩
    obtain ⟨q, hq⟩ : ∃ q, (getM ps m.c.p).2 = q := ⟨_, rfl⟩
    rw [hq] at GT
    have S2 := Lib.hid (And.intro b2 (And.intro r2 (And.intro hfo hq)))
    have GT := Lib.hid GT
    clear b2 r2 hfo hq
    go_wp2_with (fail)
    refine GT.out.mono ?_
    rintro e w3 ⟨m3, rfl, hm3, hok3, hf3, hb3, _⟩
    have hokm3 := cc_ok hok3.c.p
    have sl := slot_self w3 (.cells (cc zm).toArray 57) (cc m3).toArray
    have b3 := bThen S2.out.1 (bThen hb3 sl)
    have r3 := kept S2.out.2.1 (bThen hb3 sl)
    have S3 := Lib.hid (And.intro b3 r3)
    clear q34 c34 hm3 hok3 hf3 hb3 sl b3 r3
    cases fo with
    | some d =>
      have hq0 : q = 0 := by rw [← S2.out.2.2.2, getM_some S2.out.2.2.1]
      subst hq0
      go_wp2_with (fail)
      go_ret
      exact rputEnd.same H.out.1 S3.out.1 (putM_there MY.out S2.out.2.2.1)
    | none =>
      have hq0 : q = 6 := by rw [← S2.out.2.2.2, getM_none S2.out.2.2.1]
      subst hq0
      have LN := rlen_m (H.out.1.below S3.out.1) (by omega) (by omega)
      obtain ⟨L, hL⟩ : ∃ L, ps.flatten.length = L := ⟨_, rfl⟩
      rw [hL] at LN
      have LN := Lib.hid LN
      have HL := Lib.hid hL
      rw [hL] at hmost
      clear hL
      go_wp2_with (fail)
      refine LN.out.mono ?_
      rintro e w4 ⟨rfl, hw4⟩
      have b4 : Below w.heap.size w w4 := by rw [hw4]; exact S3.out.1
      have r4 : w4.heap[w.heap.size]? = some (.cells (cc m).toArray 57 (0, 0)) := by rw [hw4]; exact S3.out.2
      clear hw4 LN S3 GT MAY
      by_cases hlim : 2000 ≤ L
      · have d1 : decide ((L : Int) ≥ 2000) = true := decide_eq_true (by omega)
        have d1b : decide (2000 ≤ L) = true := decide_eq_true (by omega)
        have B4 := Lib.hid b4
        clear b4 r4
        go_wp2_with (fail)
        go_ret
        exact rputEnd.same H.out.1 B4.out (putM_most MY.out S2.out.2.2.1 (by rw [HL.out]; exact hlim))
      · have d1 : decide ((L : Int) ≥ 2000) = false := decide_eq_false (by omega)
        have d1b : decide (2000 ≤ L) = false := decide_eq_false (by omega)
        have HP := Lib.hid (putM_new MY.out S2.out.2.2.1 (by rw [HL.out]; exact hlim))
        have k4 := kept HX.out.1 b4
        have c4 : w4.cell? ⟨g, 0, none⟩ = some (.slice Q np cp) := (row_cells k4 0).1
        clear MY S2
        by_cases hz : np = 0
        · subst hz
          have z0 : ((0 : Int) == 0) = true := rfl
          obtain ⟨⟨k37, e37⟩, _⟩ := coin_has H.out.2.1.c.p r4
          have l5 : Below w4.heap.size w4 (w4.alloc (.cells (cc m).toArray 57)) := (Below.refl _ _).alloc (Nat.le_refl _) _
          have l6 : Below w4.heap.size w4 ((w4.alloc (.cells (cc m).toArray 57)).alloc (.cells #[.slice (some ⟨w4.heap.size, 0, none⟩) 1 1] 22)) := belA l5 _ (by simp)
          have k6 := kept k4 l6
          have c6 := (row_cells k6 0).1
          have f6 := (row_cells k6 0).2
          have S4 := Lib.hid (And.intro b4 (And.intro r4 (And.intro l5 (And.intro l6 k6))))
          clear b4 r4 k4 l5 l6 k6
          go_wp2_with (fail)
          go_ret
          have hps : ps = [] := by
            have := HX.out.2.2.2.1
            rw [← this]
            have hg0 : gs = [] := List.eq_nil_of_length_eq_zero hnp
            rw [hg0]; rfl
          obtain ⟨b4, r4, l5, l6, k6⟩ := S4.out
          have hfm := firm_one (w := w4) (base := base) (H.out.2.1.below b4) (H.out.2.2.1.below b4)
          have l7 : Below (w4.alloc (.cells (cc m).toArray 57)).heap.size (w4.alloc (.cells (cc m).toArray 57)) ((w4.alloc (.cells (cc m).toArray 57)).alloc (.cells #[.slice (some ⟨w4.heap.size, 0, none⟩) 1 1] 22)) := (Below.refl _ _).alloc (Nat.le_refl _) _
          have hsz4 := b4.size
          have hOw := Own.lit (base := w.heap.size) (e := 22) (size := 1) (G := fun _ => True) (w4.alloc (.cells (cc m).toArray 57)) #[.slice (some ⟨w4.heap.size, 0, none⟩) 1 1] 1 (Nat.le_trans hsz4 l5.size) (by decide) rfl (fun _ _ => trivial)
          have hRT := RT.set (base := base) (g := g) (gs := [⟨some ⟨w4.heap.size, 0, none⟩, 1, 1, [m]⟩]) hlow k6 rfl hOw (by omega) (fun x hx => by rcases List.mem_singleton.1 hx with rfl; exact hfm.below l7)
          rw [HP.out]
          have e2 : putF2 ps m.c = pgsOf [⟨some ⟨w4.heap.size, 0, none⟩, 1, 1, [m]⟩] := by rw [hps]; rfl
          rw [e2]
          refine ⟨rfl, _, by simpa using hRT, (Only.of (bThen b4 l6)).setCell (.inl rfl) _, .inr fun k hk => ?_⟩
          have : w4.heap.size + 1 = k := by simpa [blk] using hk
          omega
        · have z0 : ((np : Int) == 0) = false := by simp; omega
          have z0b : (np == 0) = false := by simp; omega
          have S4 := Lib.hid (And.intro b4 (And.intro r4 k4))
          clear b4 r4 k4
          go_wp2_with (fail)
          go_loopw [7, 8] (fun n i wr => ∃ j : Nat, j ≤ np ∧ i = .int .i64 j ∧ n = .int .i64 (pageNk ps m.c.p j : Nat) ∧ Below w4.heap.size w4 wr) (fun _ i _ => np - (intOf i).toNat)
          case atStart => exact ⟨0, by omega, rfl, rfl, Below.refl _ _⟩
          case round =>
            obtain ⟨j, hj, rfl, rfl, hbel⟩ := hrel
            have hb4 := bThen S4.out.1 hbel
            have cr := Cell0.of (kept S4.out.2.2 hbel)
            by_cases hlt : j < np
            · obtain ⟨ad, x, hQ, hx, hbk, hc⟩ := rd_page (HX.out.2.1.below hb4) hlt
              obtain rfl : Q = some ad := hQ
              have hxm := List.mem_of_getElem? hx
              have hfx := (HX.out.2.2.1 x hxm).below hb4
              have hx0 : 0 < x.n := by
                have := HX.out.2.2.2.2.2 (cns x.hs) (by rw [← HX.out.2.2.2.1]; exact List.mem_map.2 ⟨x, hxm, rfl⟩)
                rw [cns_length, hfx.arg.len] at this; exact this
              obtain ⟨a2, m0, hA2, hm0, hok0, hbk0, hc0⟩ := hfx.arg.at_ hx0
              rw [hA2] at hc
              have d1 : decide ((j : Int) < (np : Int)) = true := decide_eq_true (by omega)
              have i1 : (0 : Int) ≤ (j : Int) := by omega
              have i2 : (j : Int) < (np : Int) := by omega
              have i3 : (0 : Int) < (x.n : Int) := by omega
              have hkey : ps.getD j [] = cns x.hs := by rw [← HX.out.2.2.2.1]; exact pgsOf_get hx
              have hk0 : keyF (cns x.hs) = m0.c.p := by
                unfold keyF cns
                cases hh : x.hs with
                | nil => rw [hh] at hm0; simp at hm0
                | cons y r => rw [hh] at hm0; obtain rfl : y = m0 := by simpa using hm0
                              rfl
              obtain ⟨r, hr⟩ : ∃ r, lessF m.c.p m0.c.p = r := ⟨_, rfl⟩
              have hnx : pageNk ps m.c.p (j + 1) = if r = true then pageNk ps m.c.p j else j := by rw [pageNk_next, hkey, hk0, hr]
              obtain ⟨N, hN⟩ : ∃ N, pageNk ps m.c.p j = N := ⟨_, rfl⟩
              rw [hN] at hnx
              rw [hN]
              have hrow := kept S4.out.2.1 hbel
              have hglt : w.heap.size < wr.heap.size := (Array.getElem?_eq_some_iff.1 hrow).1
              have hpc0 : ∀ j u, (pc m0.c.p)[j]? = some u → wr.cell? (a2.add j) = some u := fun j u hu => by
                have := pc_cc hc0 j u hu
                simpa [Addr.add] using this
              have hS0 : StLL ⟨w.heap.size, 0, none⟩ m.c.p a2 m0.c.p wr.drew := StLL.of (Below.refl _ _).drew H.out.2.1.c.p hglt (pc_cc (coin_at hrow)) hok0.c.p hbk0 hpc0
              have cw : wr.cell? ⟨g, 0, none⟩ = some (.slice (some ad) np cp) := cr.1
              have hcd : wr.drew.cell? (ad.add j) = some (.slice (some a2) x.n x.c) := hc
              have hS1 : StLL ⟨w.heap.size, 0, none⟩ m.c.p a2 m0.c.p wr.drew ∧ Cell0 g (.slice (some ad) np cp) wr.drew ∧ wr.drew.cell? (ad.add j) = some (.slice (some a2) x.n x.c) := ⟨hS0, cr, hcd⟩
              have BB := Lib.hid (And.intro hok0 (And.intro hr (And.intro hnx (And.intro hbel (And.intro hpc0 (And.intro (pc_cc (coin_at hrow)) (And.intro (kept S4.out.2.2 hbel) hc)))))))
              clear hok0 hr hnx hbel hx hxm hfx hA2 hm0 hc0 hkey hk0 hN hb4 hrow hpc0 hS0 hc cr hcd
              go_wp2_with (fail)
              go_region_held3 (fun w' => StLL ⟨w.heap.size, 0, none⟩ m.c.p a2 m0.c.p w' ∧ Cell0 g (.slice (some ad) np cp) w' ∧ w'.cell? (ad.add j) = some (.slice (some a2) x.n x.c)) (first | exact hS2 | exact hS1)
                (first | (go_at_call 35; (with_reducible refine (rless_is H.out.2.1.c.p BB.out.1.c.p BB.out.2.1).mono ?_); rintro e w12 ⟨rfl, hb12⟩; have hb13 := (Below.refl wr.heap.size wr).drew.trans hb12; have hS2 : StLL ⟨w.heap.size, 0, none⟩ m.c.p a2 m0.c.p w12 ∧ Cell0 g (.slice (some ad) np cp) w12 ∧ w12.cell? (ad.add j) = some (.slice (some a2) x.n x.c) := ⟨StLL.of hb13 H.out.2.1.c.p hglt BB.out.2.2.2.2.2.1 BB.out.1.c.p hbk0 BB.out.2.2.2.2.1, Cell0.of (kept BB.out.2.2.2.2.2.2.1 hb13), (World.cell?_of_block (by rw [block_add]; exact hb13.block _ hbk)).trans BB.out.2.2.2.2.2.2.2⟩))
              rename_i hHeldX
              have B13 := Lib.hid (bThen BB.out.2.2.2.1 hb13)
              have NX := Lib.hid BB.out.2.2.1
              clear hHeldX hS1 hS2 hb12 hb13 BB
              cases r with
              | true =>
                rw [Bool.not_true]
                go_wp2_with (fail)
                go_roundw
                case rel => exact ⟨j + 1, by omega, by go_num, by rw [NX.out]; rfl, B13.out⟩
                case measure => simp [intOf]; omega
              | false =>
                rw [Bool.not_false]
                go_wp2_with (fail)
                go_roundw
                case rel => exact ⟨j + 1, by omega, by go_num, by rw [NX.out]; rfl, B13.out⟩
                case measure => simp [intOf]; omega
            · obtain rfl : j = np := by omega
              have d1 : decide ((j : Int) < (j : Int)) = false := decide_eq_false (by omega)
              obtain ⟨N, hN⟩ : ∃ N, pageNk ps m.c.p j = N := ⟨_, rfl⟩
              rw [hN]
              have hNlt : N < j := by rw [← hN]; exact pageNk_lt _ _ _ (by omega)
              obtain ⟨ad, x, hQ, hx, hbk, hc⟩ := rd_page (HX.out.2.1.below hb4) hNlt
              obtain rfl : Q = some ad := hQ
              have hxm := List.mem_of_getElem? hx
              have hfx := (HX.out.2.2.1 x hxm).below hb4
              have hkey : ps.getD N [] = cns x.hs := by rw [← HX.out.2.2.2.1]; exact pgsOf_get hx
              have hxn : x.n ≤ 2000 := by
                have e1 : (cns x.hs).length ≤ ps.flatten.length := by
                  rw [← hkey, ← HX.out.2.2.2.1]
                  rw [HX.out.2.2.2.1, hkey]
                  have hmem : cns x.hs ∈ ps := by rw [← HX.out.2.2.2.1]; exact List.mem_map.2 ⟨x, hxm, rfl⟩
                  exact (List.sublist_flatten_of_mem hmem).length_le
                rw [cns_length, hfx.arg.len, HL.out] at e1; omega
              have i1 : (0 : Int) ≤ (N : Int) := by omega
              have i2 : (N : Int) < (j : Int) := by omega
              have i3 : (j : Int) ≤ (cp : Int) := by omega
              have i4 : (N : Int) ≤ (cp : Int) := by omega
              have i5 : (N : Int) + 1 ≤ (j : Int) := by omega
              have hrow := kept S4.out.2.1 hbel
              have cw : wr.cell? ⟨g, 0, none⟩ = some (.slice (some ad) j cp) := cr.1
              have hld := ld_coin_at wr.drew ⟨w.heap.size, 0, none⟩ m H.out.2.1.c.p (coin_at hrow)
              have hcd : wr.drew.cell? (ad.add N) = some (.slice x.A x.n x.c) := hc
              have PUT := Lib.hid (fun (v : World) (hv : Below wr.heap.size wr v) => rins_m (hfx.below hv) m (H.out.2.1.below (bThen hb4 hv)) (H.out.2.2.1.below (bThen hb4 hv)) (by omega))
              have BB := Lib.hid (And.intro hb4 (And.intro hx (And.intro hfx (And.intro hkey (And.intro hN (And.intro (kept S4.out.2.2 hbel) hbel))))))
              have hS1 : Cell0 g (.slice (some ad) j cp) wr.drew ∧ wr.drew.cell? (ad.add N) = some (.slice x.A x.n x.c) ∧ (ld_coin (.pointer (some ⟨w.heap.size, 0, none⟩))).run Try.prog wr.drew = .ok (.agg (cc m).toArray) wr.drew := ⟨cr, hcd, hld⟩
              have KC := Lib.hid (And.intro (coin_at hrow) (And.intro hc hrow))
              have hglt : w.heap.size < wr.heap.size := (Array.getElem?_eq_some_iff.1 hrow).1
              clear hb4 hx hxm hfx hkey hN hrow hbel hld hcd cr hc
              go_wp2_with (fail)
              go_region_held3 (fun w' => Cell0 g (.slice (some ad) j cp) w' ∧ w'.cell? (ad.add N) = some (.slice x.A x.n x.c) ∧ (ld_coin (.pointer (some ⟨w.heap.size, 0, none⟩))).run Try.prog w' = .ok (.agg (cc m).toArray) w') (first | exact hS2 | exact hS1)
                (first | (go_at_call 92; (with_reducible refine (PUT.out wr.drew (Below.refl _ _).drew).mono ?_); rintro e w5 ⟨⟨Ay, ny, cy, hy⟩, rfl, hyc, hyf, hb12⟩; have hb13 := (Below.refl wr.heap.size wr).drew.trans hb12; have hS2 : Cell0 g (.slice (some ad) j cp) w5 ∧ w5.cell? (ad.add N) = some (.slice x.A x.n x.c) ∧ (ld_coin (.pointer (some ⟨w.heap.size, 0, none⟩))).run Try.prog w5 = .ok (.agg (cc m).toArray) w5 := ⟨Cell0.of (kept BB.out.2.2.2.2.2.1 hb13), (World.cell?_of_block (by rw [block_add]; exact hb13.block _ hbk)).trans KC.out.2.1, ld_coin_at w5 ⟨w.heap.size, 0, none⟩ m H.out.2.1.c.p (coin_at (kept KC.out.2.2 hb13))⟩))
              rename_i hHeldX
              have b5 := bThen BB.out.1 hb13
              have g5 := kept BB.out.2.2.2.2.2.1 hb13
              have c5 : w5.cell? ⟨g, 0, none⟩ = some (.slice (some ad) j cp) := (row_cells g5 0).1
              have hyl : hy.length = ny := hyf.arg.len
              have hyn : ny = x.n + 1 := by
                have h := congrArg List.length hyc
                rw [insF_len, cns_length, cns_length, BB.out.2.2.1.arg.len] at h
                exact hyl.symm.trans h
              have hycap : ny ≤ cy := hyf.arg.cap
              have hymax : cy ≤ maxLen := hyf.arg.max
              have hcy : cy ≤ 9223372036854775807 := by unfold maxLen at hymax; omega
              obtain ⟨N1, hN1⟩ : ∃ N1, N + 1 = N1 := ⟨_, rfl⟩
              have hw1 : IntKind.i64.wrap ((N : Int) + 1) = (N1 : Int) := by rw [wrap_i64s (by omega)]; omega
              have j1 : (0 : Int) ≤ (N1 : Int) := by omega
              have j2 : (N1 : Int) ≤ (j : Int) := by omega
              have j3 : (N1 : Int) ≤ (cp : Int) := by omega
              have HPQ : Part.ok w5 1 ⟨some ad, j, cp, gs.map Pg.cell⟩ := ⟨HX.out.2.1.below b5, pages_one gs⟩
              have PP0 := HPQ.pre (k := N) (by omega)
              rw [Nat.mul_one] at PP0
              have PP := Lib.hid PP0
              have HPQ := Lib.hid HPQ
              have hny : ny ≤ 2001 := by omega
              clear PP0 hyn
              have hmc : cns hy = insF (ps.getD N []) m.c := by rw [BB.out.2.2.2.1]; exact hyc
              have V := Lib.hid (And.intro b5 (And.intro g5 (And.intro hmc (And.intro hyf (And.intro BB.out.2.2.2.2.1 hN1)))))
              clear hHeldX hS1 hS2 hb12 hb13 b5 g5 hyc hyf hmc BB KC PUT hN1
              go_wp2_with (at_builtin; refine Stop.mk ?_)
              refine Stop.out ?_
              refine appP _ rfl (.tmp 71) (.tmp 77) rfl w5.heap.size none 0 0 [] rfl (Own.nil _ _ _ _ _) ⟨some ad, N, cp, (gs.map Pg.cell).take N⟩ rfl PP.out (by show 0 + N ≤ _; omega) (Nat.le_refl _) ?_
              intro A6 k6 w6 ho6 hg6
              have e1 : 0 + (⟨some ad, N, cp, (gs.map Pg.cell).take N⟩ : Part).n = N := Nat.zero_add N
              rw [e1, List.nil_append] at ho6
              rw [e1]
              have l6 : Below w5.heap.size w5 w6 := ⟨hg6.os, hg6.tape, hg6.output, hg6.size, fun k hk => hg6.block k hk (fun e => by cases e)⟩
              have U := Lib.hid (And.intro ho6 l6)
              have hpl : ps.length = j := by rw [← HX.out.2.2.2.1, pgsOf_length, hnp]
              have hbase : base ≤ w.heap.size := by omega
              clear ho6 hg6 l6 c5
              by_cases hy8 : 8 < ny
              · have d8 : decide ((ny : Int) > 8) = true := decide_eq_true (by omega)
                have d8b : decide (8 < ny) = true := decide_eq_true hy8
                go_wp2_with (fail)
                obtain ⟨ady, m9, hAy, _⟩ := V.out.2.2.2.1.arg.at_ (k := 0) (show 0 < ny by omega)
                obtain rfl : Ay = some ady := hAy
                have y1 : (4 : Int) ≤ (ny : Int) := by omega
                have y2 : (ny : Int) ≤ (cy : Int) := by omega
                have y3 : (4 : Int) ≤ (cy : Int) := by omega
                have y4 : ¬ (cy : Int) = 4 := by omega
                have y5 : ¬ cy = 4 := by omega
                have la : Below w5.heap.size w5 (w6.alloc (.cells #[.slice (some ady) 4 cy, .slice (some ⟨ady.block, ady.off + 148, none⟩) (ny - 4) (cy - 4)] 22)).drew := (U.out.2.alloc (U.out.2.size) _).drew
                have la6 : Below w6.heap.size w6 (w6.alloc (.cells #[.slice (some ady) 4 cy, .slice (some ⟨ady.block, ady.off + 148, none⟩) (ny - 4) (cy - 4)] 22)).drew := ((Below.refl _ _).alloc (Nat.le_refl _) _).drew
                have hoX := U.out.1.below la6
                have hpX : Part.ok (w6.alloc (.cells #[.slice (some ady) 4 cy, .slice (some ⟨ady.block, ady.off + 148, none⟩) (ny - 4) (cy - 4)] 22)).drew 1 ⟨some ⟨w6.heap.size, 0, none⟩, 2, 2, [.slice (some ady) 4 cy, .slice (some ⟨ady.block, ady.off + 148, none⟩) (ny - 4) (cy - 4)]⟩ := ⟨(Own.lit (base := 0) (e := 22) (size := 1) (G := fun _ => True) w6 #[.slice (some ady) 4 cy, .slice (some ⟨ady.block, ady.off + 148, none⟩) (ny - 4) (cy - 4)] 2 (Nat.zero_le _) (by decide) rfl (fun _ _ => trivial)).rd.drew, fun u hu => by
                  rcases List.mem_cons.1 hu with rfl | hu
                  · rfl
                  · rcases List.mem_singleton.1 hu with rfl; rfl⟩
                have hzX := la.size
                go_region_law (refine step_appP _ rfl (.tmp 82) (.tmp 87) rfl w5.heap.size A6 N k6 _ (by rfl) hoX ⟨some ⟨w6.heap.size, 0, none⟩, 2, 2, [.slice (some ady) 4 cy, .slice (some ⟨ady.block, ady.off + 148, none⟩) (ny - 4) (cy - 4)]⟩ (by rfl) hpX (by show N + 2 ≤ _; omega) hzX ?_; intro A7 k7 w7 ho7 hg7)
                have l7 := la.grown hg7 la.size (fun g hg => (Own.lt U.out.1 g hg).1)
                have L7 := Lib.hid (And.intro (show Own w7 w5.heap.size 22 1 (fun _ => True) A7 (N + 2) k7 ((gs.map Pg.cell).take N ++ [.slice (some ady) 4 cy, .slice (some ⟨ady.block, ady.off + 148, none⟩) (ny - 4) (cy - 4)]) from ho7) l7)
                clear la la6 ho7 hg7 l7 hoX hpX hzX
                have c7 : w7.cell? ⟨g, 0, none⟩ = some (.slice (some ad) j cp) := (row_cells (kept V.out.2.1 L7.out.2) 0).1
                by_cases hcl : cp = N1
                · obtain rfl : j = N1 := by omega
                  subst hcl
                  have PQ := Lib.hid (show Part.ok w5 1 ⟨some ad, 0, 0, (gs.map Pg.cell).drop cp⟩ from (by have h := HPQ.out.post (k := cp) (Nat.le_refl _) (Nat.le_refl _); rw [Nat.mul_one, if_pos rfl, Nat.sub_self] at h; exact h))
                  go_wp2_with (at_builtin; refine Stop.mk ?_)
                  refine Stop.out ?_
                  refine appP _ rfl (.tmp 94) (.tmp 101) rfl w5.heap.size A7 (N + 2) k7 _ rfl L7.out.1 ⟨some ad, 0, 0, (gs.map Pg.cell).drop cp⟩ rfl (PQ.out.below L7.out.2) (by show N + 2 + 0 ≤ _; omega) L7.out.2.size ?_
                  intro A8 k8 w8 ho8 hg8
                  have l8 := L7.out.2.grown hg8 L7.out.2.size (fun g hg => (Own.lt L7.out.1 g hg).1)
                  have g8 := kept V.out.2.1 l8
                  have c8 := (row_cells g8 0).1
                  have f8 := (row_cells g8 0).2
                  have L8 := Lib.hid (And.intro ho8 (And.intro l8 g8))
                  clear ho8 hg8 l8 g8 c7
                  go_wp2_with (fail)
                  go_ret
                  exact rput_done (mid := [⟨some ady, 4, cy, hy.take 4⟩, ⟨some ⟨ady.block, ady.off + 148, none⟩, ny - 4, cy - 4, hy.drop 4⟩]) hlow hbase L8.out.2.2 rfl (bThen V.out.1 L8.out.2.1) HX.out.2.2.2.1 HX.out.2.2.1 (by
                    intro z hz
                    have hff := V.out.2.2.2.1.below L8.out.2.1; rcases List.mem_cons.1 hz with rfl | hz; exact hff.pre (k := 4) (by omega); rcases List.mem_singleton.1 hz with rfl; have hq := hff.post (k := 4) (by omega); rw [add_pos ady (4 * 37) (by decide)] at hq; exact hq) (by rw [← V.out.2.2.1]; unfold cutF; rw [if_pos (by rw [cns_length, hyl]; exact hy8)]; show [cns (hy.take 4), cns (hy.drop 4)] = _; unfold cns; rw [List.map_take, List.map_drop]) (by rw [hpl]; exact V.out.2.2.2.2.1) (by omega) V.out.2.2.2.2.2 (Own.mono L8.out.1 V.out.1.size) HP.out
                · have hcl2 : ¬ (cp : Int) = (N1 : Int) := by omega
                  have PQ := Lib.hid (show Part.ok w5 1 ⟨some (ad.add N1), (j - N1), (cp - N1), (gs.map Pg.cell).drop N1⟩ from (by have h := HPQ.out.post (k := N1) (by omega) (by omega); rw [Nat.mul_one, if_neg hcl] at h; exact h))
                  go_wp2_with (at_builtin; refine Stop.mk ?_)
                  refine Stop.out ?_
                  refine appP _ rfl (.tmp 94) (.tmp 101) rfl w5.heap.size A7 (N + 2) k7 _ rfl L7.out.1 ⟨some (ad.add N1), (j - N1), (cp - N1), (gs.map Pg.cell).drop N1⟩ rfl (PQ.out.below L7.out.2) (by show N + 2 + (j - N1) ≤ _; omega) L7.out.2.size ?_
                  intro A8 k8 w8 ho8 hg8
                  have l8 := L7.out.2.grown hg8 L7.out.2.size (fun g hg => (Own.lt L7.out.1 g hg).1)
                  have g8 := kept V.out.2.1 l8
                  have c8 := (row_cells g8 0).1
                  have f8 := (row_cells g8 0).2
                  have L8 := Lib.hid (And.intro ho8 (And.intro l8 g8))
                  clear ho8 hg8 l8 g8 c7
                  go_wp2_with (fail)
                  go_ret
                  exact rput_done (mid := [⟨some ady, 4, cy, hy.take 4⟩, ⟨some ⟨ady.block, ady.off + 148, none⟩, ny - 4, cy - 4, hy.drop 4⟩]) hlow hbase L8.out.2.2 rfl (bThen V.out.1 L8.out.2.1) HX.out.2.2.2.1 HX.out.2.2.1 (by
                    intro z hz
                    have hff := V.out.2.2.2.1.below L8.out.2.1; rcases List.mem_cons.1 hz with rfl | hz; exact hff.pre (k := 4) (by omega); rcases List.mem_singleton.1 hz with rfl; have hq := hff.post (k := 4) (by omega); rw [add_pos ady (4 * 37) (by decide)] at hq; exact hq) (by rw [← V.out.2.2.1]; unfold cutF; rw [if_pos (by rw [cns_length, hyl]; exact hy8)]; show [cns (hy.take 4), cns (hy.drop 4)] = _; unfold cns; rw [List.map_take, List.map_drop]) (by rw [hpl]; exact V.out.2.2.2.2.1) (by omega) V.out.2.2.2.2.2 (Own.mono L8.out.1 V.out.1.size) HP.out
              · have d8 : decide ((ny : Int) > 8) = false := decide_eq_false (by omega)
                have d8b : decide (8 < ny) = false := decide_eq_false hy8
                go_wp2_with (at_builtin; refine Stop.mk ?_)
                refine Stop.out ?_
                have la : Below w5.heap.size w5 (w6.alloc (.cells #[.slice Ay ny cy] 22)) := U.out.2.alloc (U.out.2.size) _
                have la6 : Below w6.heap.size w6 (w6.alloc (.cells #[.slice Ay ny cy] 22)) := (Below.refl _ _).alloc (Nat.le_refl _) _
                refine appP _ rfl (.tmp 89) (.tmp 91) rfl w5.heap.size A6 N k6 _ rfl (U.out.1.below la6) ⟨some ⟨w6.heap.size, 0, none⟩, 1, 1, [.slice Ay ny cy]⟩ rfl ⟨(Own.lit (base := 0) (e := 22) (size := 1) (G := fun _ => True) w6 #[.slice Ay ny cy] 1 (Nat.zero_le _) (by decide) rfl (fun _ _ => trivial)).rd, fun u hu => by rcases List.mem_singleton.1 hu with rfl; rfl⟩ (by show N + 1 ≤ _; omega) la.size ?_
                intro A7 k7 w7 ho7 hg7
                have l7 := la.grown hg7 la.size (fun g hg => (Own.lt U.out.1 g hg).1)
                have e7 : N + (⟨some ⟨w6.heap.size, 0, none⟩, 1, 1, [.slice Ay ny cy]⟩ : Part).n = N + 1 := rfl
                rw [e7] at ho7
                rw [e7]
                have L7 := Lib.hid (And.intro ho7 l7)
                clear la la6 ho7 hg7 l7 e7
                have c7 : w7.cell? ⟨g, 0, none⟩ = some (.slice (some ad) j cp) := (row_cells (kept V.out.2.1 L7.out.2) 0).1
                by_cases hcl : cp = N1
                · obtain rfl : j = N1 := by omega
                  subst hcl
                  have PQ := Lib.hid (show Part.ok w5 1 ⟨some ad, 0, 0, (gs.map Pg.cell).drop cp⟩ from (by have h := HPQ.out.post (k := cp) (Nat.le_refl _) (Nat.le_refl _); rw [Nat.mul_one, if_pos rfl, Nat.sub_self] at h; exact h))
                  go_wp2_with (at_builtin; refine Stop.mk ?_)
                  refine Stop.out ?_
                  refine appP _ rfl (.tmp 94) (.tmp 101) rfl w5.heap.size A7 (N + 1) k7 _ rfl L7.out.1 ⟨some ad, 0, 0, (gs.map Pg.cell).drop cp⟩ rfl (PQ.out.below L7.out.2) (by show N + 1 + 0 ≤ _; omega) L7.out.2.size ?_
                  intro A8 k8 w8 ho8 hg8
                  have l8 := L7.out.2.grown hg8 L7.out.2.size (fun g hg => (Own.lt L7.out.1 g hg).1)
                  have g8 := kept V.out.2.1 l8
                  have c8 := (row_cells g8 0).1
                  have f8 := (row_cells g8 0).2
                  have L8 := Lib.hid (And.intro ho8 (And.intro l8 g8))
                  clear ho8 hg8 l8 g8 c7
                  go_wp2_with (fail)
                  go_ret
                  exact rput_done (mid := [⟨Ay, ny, cy, hy⟩]) hlow hbase L8.out.2.2 rfl (bThen V.out.1 L8.out.2.1) HX.out.2.2.2.1 HX.out.2.2.1 (by
                    intro z hz
                    rcases List.mem_singleton.1 hz with rfl; exact V.out.2.2.2.1.below L8.out.2.1) (by rw [← V.out.2.2.1]; unfold cutF; rw [if_neg (by rw [cns_length, hyl]; exact hy8)]; rfl) (by rw [hpl]; exact V.out.2.2.2.2.1) (by omega) V.out.2.2.2.2.2 (Own.mono L8.out.1 V.out.1.size) HP.out
                · have hcl2 : ¬ (cp : Int) = (N1 : Int) := by omega
                  have PQ := Lib.hid (show Part.ok w5 1 ⟨some (ad.add N1), (j - N1), (cp - N1), (gs.map Pg.cell).drop N1⟩ from (by have h := HPQ.out.post (k := N1) (by omega) (by omega); rw [Nat.mul_one, if_neg hcl] at h; exact h))
                  go_wp2_with (at_builtin; refine Stop.mk ?_)
                  refine Stop.out ?_
                  refine appP _ rfl (.tmp 94) (.tmp 101) rfl w5.heap.size A7 (N + 1) k7 _ rfl L7.out.1 ⟨some (ad.add N1), (j - N1), (cp - N1), (gs.map Pg.cell).drop N1⟩ rfl (PQ.out.below L7.out.2) (by show N + 1 + (j - N1) ≤ _; omega) L7.out.2.size ?_
                  intro A8 k8 w8 ho8 hg8
                  have l8 := L7.out.2.grown hg8 L7.out.2.size (fun g hg => (Own.lt L7.out.1 g hg).1)
                  have g8 := kept V.out.2.1 l8
                  have c8 := (row_cells g8 0).1
                  have f8 := (row_cells g8 0).2
                  have L8 := Lib.hid (And.intro ho8 (And.intro l8 g8))
                  clear ho8 hg8 l8 g8 c7
                  go_wp2_with (fail)
                  go_ret
                  exact rput_done (mid := [⟨Ay, ny, cy, hy⟩]) hlow hbase L8.out.2.2 rfl (bThen V.out.1 L8.out.2.1) HX.out.2.2.2.1 HX.out.2.2.1 (by
                    intro z hz
                    rcases List.mem_singleton.1 hz with rfl; exact V.out.2.2.2.1.below L8.out.2.1) (by rw [← V.out.2.2.1]; unfold cutF; rw [if_neg (by rw [cns_length, hyl]; exact hy8)]; rfl) (by rw [hpl]; exact V.out.2.2.2.2.1) (by omega) V.out.2.2.2.2.2 (Own.mono L8.out.1 V.out.1.size) HP.out
end Go.Proofs.Ytofclanljhfkiaa
/- The reference's Take: what its loops know. -/
namespace Go.Proofs.Ytofclanljhfkiaa
open Go.RowKit Go.Proofs En Co
set_option linter.unusedVariables false
set_option linter.unusedSimpArgs false
set_option maxRecDepth 20000
attribute [local go_sem ↓] ld_point_eq ld_coin_eq ld_hash_eq st_point_eq st_coin_eq bd_point_eq bd_coin_eq eq_point_eq ne_point_eq al_coin_eq al_point_eq bs_coin_eq
attribute [local go_sem] ld_point_run ld_coin_run ld_hash_run st_point_run st_coin_run bd_point_zero bd_coin_zero bd_point_of bd_coin_of hash_at rowIs_34 rowIs_37 rowIs_both hasAt_both cellsAt_both eq_point_run ne_point_run guard_pt al_coin_run al_point_run al_coin_row al_point_row nil_bytes nil_coins bs_coin_run

theorem lostF_next {l : List Cn} {j : Nat} {c : Cn} {p : Pt} (h : l[j]? = some c) : lostF (l.take (j + 1)) p = lostF (l.take j) p ++ (if c.p = p then [] else [c]) := by
  unfold lostF
  rw [take_next h, List.filter_append]
  by_cases hc : c.p = p
  · simp [hc]
  · simp [hc]
/-- the pages that are left of the first j -/
def leftF (ps : List (List Cn)) (p : Pt) (j : Nat) : List (List Cn) := takeF2 (ps.take j) p
theorem leftF_next {ps : List (List Cn)} {p : Pt} {j : Nat} {l : List Cn} (h : ps[j]? = some l) : leftF ps p (j + 1) = leftF ps p j ++ (if 0 < (lostF l p).length then [lostF l p] else []) := by
  unfold leftF takeF2
  rw [take_next h, List.map_append, List.filter_append]
  by_cases hc : 0 < (lostF l p).length
  · simp [hc]
  · simp [hc]
/-- a page in a row of its own, whose coins' locks are elder ones -/
structure NewP (w wr : World) (base b : Nat) (x : Pg) : Prop where
  own : ∃ b2, b ≤ b2 ∧ Own wr b2 57 37 (fun _ => True) x.A x.n x.c (pcs x.hs)
  len : x.hs.length = x.n
  mem : ∀ m ∈ x.hs, m.ok w ∧ FirmL w base m
section
variable {w w2 wr w' : World} {base B b g j q k : Nat} {A : Option Addr} {p : Pt} {m : Cm} {ps : List (List Cn)} {gs1 : List Pg} {x : Pg}
theorem NewP.below (h : NewP w wr base b x) (hb : Below wr.heap.size wr w') : NewP w w' base b x := by
  obtain ⟨b2, h1, h2⟩ := h.own
  exact ⟨⟨b2, h1, h2.below hb⟩, h.len, h.mem⟩
theorem NewP.firm (h : NewP w wr base b x) (hs : Soft w wr base g none) : FirmP wr base x := by
  obtain ⟨b2, h1, h2⟩ := h.own
  exact ⟨⟨h2.rd, fun y hy => Cm.soft (h.mem y hy).1 (h.mem y hy).2 hs, h.len, (Own.len_cap h2).1, (Own.len_cap h2).2⟩, Firm.own h2 (by decide) (by decide) (by decide) (by decide) (by decide), fun y hy h0 => ((h.mem y hy).2 h0).soft hs⟩
/-- what a round of Take's loop over the pages knows -/
structure TkR (w w2 wr : World) (base B : Nat) (p : Pt) (m : Cm) (ps : List (List Cn)) (j : Nat) (A : Option Addr) (q k : Nat) (gs1 : List Pg) : Prop where
  bel : Below w2.heap.size w2 wr
  rp : wr.heap[B]? = some (.cells (pc p).toArray 54 (0, 0))
  rz : wr.heap[B + 1]? = some (.cells (cc zm).toArray 57 (0, 0))
  rm : wr.heap[w2.heap.size]? = some (.cells (cc m).toArray 57 (0, 0))
  pages : Own wr w2.heap.size 22 1 (fun _ => True) A q k (gs1.map Pg.cell)
  firm : ∀ x ∈ gs1, NewP w wr base w2.heap.size x
  eq : pgsOf gs1 = leftF ps p j
theorem TkR.below (h : TkR w w2 wr base B p m ps j A q k gs1) (hb : Below wr.heap.size wr w') : TkR w w2 w' base B p m ps j A q k gs1 :=
  ⟨bThen h.bel hb, kept h.rp hb, kept h.rz hb, kept h.rm hb, h.pages.below hb, fun x hx => (h.firm x hx).below hb, h.eq⟩
theorem TkR.next (h : TkR w w2 wr base B p m ps j A q k gs1) {A4 : Option Addr} {k4 : Nat} {y : Pg} {l : List Cn} (hg4 : wr.grownBy w' (blk A)) (ho : Own w' w2.heap.size 22 1 (fun _ => True) A4 (q + 1) k4 (gs1.map Pg.cell ++ [y.cell])) (hy : NewP w wr base w2.heap.size y) (he : ps[j]? = some l) (hyl : cns y.hs = lostF l p) (hpos : 0 < (lostF l p).length) :
    TkR w w2 w' base B p m ps (j + 1) A4 (q + 1) k4 (gs1 ++ [y]) := by
  have hrow : ∀ {i : Nat} {xs : Array Value} {T : TypeId}, wr.heap[i]? = some (.cells xs T (0, 0)) → 22 ≠ T → w'.heap[i]? = some (.cells xs T (0, 0)) := fun {i xs T} h1 h2 =>
    (hg4.block _ (Array.getElem?_eq_some_iff.1 h1).1 (Ne.symm (Own.ne_block h.pages h1 h2))).trans h1
  have hn : ∀ z, NewP w wr base w2.heap.size z → NewP w w' base w2.heap.size z := fun z hz => by
    obtain ⟨b2, h1, h2⟩ := hz.own
    refine ⟨⟨b2, h1, Own.keep h2 fun i hi => hg4.block i (Own.lt h2 i hi).2 (fun e => ?_)⟩, hz.len, hz.mem⟩
    rcases h2.2 with ⟨e2, _⟩ | ⟨k', cur, e2, _, hh, _⟩
    · rw [e2] at hi; cases hi
    · have e3 : k' = i := by rw [e2] at hi; simpa [blk] using hi
      subst e3
      exact Own.ne_block h.pages hh (by decide) e.symm
  refine ⟨h.bel.grown hg4 h.bel.size (fun i hi => (Own.lt h.pages i hi).1), hrow h.rp (by decide), hrow h.rz (by decide), hrow h.rm (by decide), ?_, fun x hx => ?_, ?_⟩
  · rw [List.map_append]; exact ho
  · rcases List.mem_append.1 hx with hx | hx
    · exact hn x (h.firm x hx)
    · rcases List.mem_singleton.1 hx with rfl; exact hn _ hy
  · rw [leftF_next he, if_pos hpos, ← h.eq, ← hyl]
    unfold pgsOf
    rw [List.map_append]; rfl
theorem TkR.skip (h : TkR w w2 wr base B p m ps j A q k gs1) {l : List Cn} (he : ps[j]? = some l) (hpos : ¬ 0 < (lostF l p).length) : TkR w w2 wr base B p m ps (j + 1) A q k gs1 :=
  ⟨h.bel, h.rp, h.rz, h.rm, h.pages, h.firm, by rw [leftF_next he, if_neg hpos, List.append_nil]; exact h.eq⟩
/-- what a round of its loop over a page knows -/
structure TpR (w9 wr : World) (x : Pg) (p : Pt) (i : Nat) (A : Option Addr) (n k : Nat) (hs : List Cm) : Prop where
  bel : Below w9.heap.size w9 wr
  own : Own wr w9.heap.size 57 37 (fun _ => True) A n k (pcs hs)
  len : hs.length = n
  le : n ≤ i
  eq : cns hs = lostF ((cns x.hs).take i) p
  mem : ∀ m ∈ hs, m ∈ x.hs
theorem TpR.new {w9 : World} {i n : Nat} {hs : List Cm} (h : TpR w9 wr x p i A n k hs) (hx : FirmP w base x) (hb : b ≤ w9.heap.size) : NewP w wr base b ⟨A, n, k, hs⟩ :=
  ⟨⟨_, hb, h.own⟩, h.len, fun m hm => ⟨hx.arg.ok m (h.mem m hm), hx.lock m (h.mem m hm)⟩⟩

/-- what the reference's Take answers -/
def rtakeEnd (w w' : World) (e : Ending) (base g : Nat) (Q : Option Addr) (r : List (List Cn) × Cn × Int) : Prop :=
  ∃ m : Cm, e = .returned (.tuple #[.agg (cc m).toArray, .int .i64 r.2.2]) ∧ m.c = r.2.1 ∧ m.ok w' ∧ FirmL w' base m ∧ ∃ Q', RT w' base g Q' r.1 ∧ Only w w' g none ∧ Kept w Q Q'
/-- the reference's table, whose pages' rows lie where Y says -/
structure RTY (w : World) (base g : Nat) (Q : Option Addr) (ps : List (List Cn)) (Y : Nat → Prop) : Prop where
  low : base ≤ g
  ex : ∃ (np cp : Nat) (gs : List Pg), w.heap[g]? = some (.cells #[.slice Q np cp] 124 (0, 0)) ∧ Rd w 1 Q np (gs.map Pg.cell) ∧ np ≤ cp ∧ cp ≤ maxLen ∧ (∀ x ∈ gs, FirmP w base x) ∧ pgsOf gs = ps ∧
    (∀ k, blk Q = some k → base ≤ k ∧ k < w.heap.size ∧ ∃ xs, w.heap[k]? = some (.cells xs 22 (0, 0))) ∧ ∀ x ∈ gs, ∀ k, blk x.A = some k → Y k
theorem RTY.rt {w : World} {base g : Nat} {Q : Option Addr} {ps : List (List Cn)} {Y : Nat → Prop} (h : RTY w base g Q ps Y) : RT w base g Q ps := by
  obtain ⟨np, cp, gs, h1, h2, h3, h4, h5, h6, h7, _⟩ := h.ex
  exact ⟨h.low, np, cp, gs, h1, h2, h3, h4, h5, h6, h7⟩
theorem RTY.mono {w : World} {base g : Nat} {Q : Option Addr} {ps : List (List Cn)} {Y Y' : Nat → Prop} (h : RTY w base g Q ps Y) (hy : ∀ k, k < w.heap.size → Y k → Y' k) : RTY w base g Q ps Y' := by
  obtain ⟨np, cp, gs, h1, h2, h3, h4, h5, h6, h7, h8⟩ := h.ex
  exact ⟨h.low, np, cp, gs, h1, h2, h3, h4, h5, h6, h7, fun x hx k hk => hy k ((h5 x hx).row k hk).1 (h8 x hx k hk)⟩
/-- what it answers, and where the pages' rows lie then -/
def rtakeEndN (w w' : World) (e : Ending) (base g : Nat) (Q : Option Addr) (r : List (List Cn) × Cn × Int) : Prop :=
  ∃ m : Cm, e = .returned (.tuple #[.agg (cc m).toArray, .int .i64 r.2.2]) ∧ m.c = r.2.1 ∧ m.ok w' ∧ FirmL w' base m ∧ ∃ Q', RT w' base g Q' r.1 ∧ Only w w' g none ∧ Kept w Q Q' ∧ (r.2.2 = 0 → RTY w' base g Q' r.1 (fun k => w.heap.size ≤ k))
theorem rtakeEndN.weak {w w' : World} {e : Ending} {base g : Nat} {Q : Option Addr} {r : List (List Cn) × Cn × Int} (h : rtakeEndN w w' e base g Q r) : rtakeEnd w w' e base g Q r := by
  obtain ⟨m, h1, h2, h3, h4, Q', h5, h6, h7, _⟩ := h
  exact ⟨m, h1, h2, h3, h4, Q', h5, h6, h7⟩
theorem takeM_no (h : findF ps p = none) : takeM ps p = (ps, zeroCn, 6) := by unfold takeM; rw [h]
theorem takeM_yes {c : Cn} (h : findF ps p = some c) : takeM ps p = (takeF2 ps p, c, 0) := by unfold takeM; rw [h]
theorem TkR.done {Q : Option Addr} {xs : Array Value} {d : Cn} (h : TkR w w2 wr base B p m ps j A q k gs1) (hlow : base ≤ g) (hgl : g < w.heap.size) (hB : B = w.heap.size) (hz : w.heap.size + 2 ≤ w2.heap.size) (hw : Below w.heap.size w w2) (hg : w.heap[g]? = some (.cells xs 124 (0, 0))) (hxs : xs.size = 1) (hj : ps.length ≤ j) (hf : findF ps p = some d) (hmc : m.c = d) (hm : m.ok w) (hml : FirmL w base m) :
    rtakeEndN w ((wr.setCell ⟨g, 0, none⟩ (.slice A q k)).setRow (B + 1) (cc m).toArray) (.returned (.tuple #[.agg (cc m).toArray, .int .i64 0])) base g Q (takeM ps p) := by
  subst hB
  have bw := bThen hw h.bel
  have hgr := kept hg bw
  have O : Only w ((wr.setCell ⟨g, 0, none⟩ (.slice A q k)).setRow (w.heap.size + 1) (cc m).toArray) g none := ((Only.of bw).setCell (.inl rfl) _).setRow (by omega) _
  have hS : Soft w ((wr.setCell ⟨g, 0, none⟩ (.slice A q k)).setRow (w.heap.size + 1) (cc m).toArray) base g none := ⟨O, hlow, fun k hk => (by cases hk), ⟨xs, _, hg, .inr rfl⟩, fun k hk => (by cases hk)⟩
  have o2 := Own.setOther h.pages (p := ⟨g, 0, none⟩) (fun e => Own.ne_block h.pages hgr (by decide) e) (.slice A q k)
  have o3 := Own.setRowOther o2 (g := w.heap.size + 1) (fun e => by have := (Own.lt o2 _ e).1; omega) (cc m).toArray
  have hnew : ∀ x ∈ gs1, NewP w ((wr.setCell ⟨g, 0, none⟩ (.slice A q k)).setRow (w.heap.size + 1) (cc m).toArray) base w2.heap.size x := fun x hx => by
    obtain ⟨b2, h1, h2⟩ := (h.firm x hx).own
    have p2 := Own.setOther h2 (p := ⟨g, 0, none⟩) (fun e => by have := (Own.lt h2 g e).1; omega) (.slice A q k)
    exact ⟨⟨b2, h1, Own.setRowOther p2 (g := w.heap.size + 1) (fun e => by have := (Own.lt p2 _ e).1; omega) (cc m).toArray⟩, (h.firm x hx).len, (h.firm x hx).mem⟩
  rw [takeM_yes hf]
  have hY : RTY ((wr.setCell ⟨g, 0, none⟩ (.slice A q k)).setRow (w.heap.size + 1) (cc m).toArray) base g A (takeF2 ps p) (fun k => w.heap.size ≤ k) := by
    refine ⟨hlow, q, k, gs1, ?_, o3.rd, (Own.len_cap o3).1, (Own.len_cap o3).2, fun x hx => (hnew x hx).firm hS, ?_, fun i hi => ?_, fun x hx i hi => ?_⟩
    · rw [setRow_other _ _ _ _ (by omega), heap_setCell_same _ g 0 _ _ _ hgr]
      match xs, hxs with
      | ⟨[x]⟩, _ => rfl
    · rw [h.eq]; unfold leftF; rw [List.take_of_length_le hj]
    · have h1 := Own.lt o3 i hi
      refine ⟨by omega, h1.2, ?_⟩
      rcases o3.2 with ⟨rfl, _⟩ | ⟨k', cur, rfl, _, hh, _⟩
      · cases hi
      · have e : k' = i := by simpa [blk] using hi
        subst e
        exact ⟨cur, hh⟩
    · obtain ⟨b2, hb1, hb2⟩ := (hnew x hx).own
      have := (Own.lt hb2 i hi).1
      omega
  exact ⟨m, rfl, hmc, Cm.soft hm hml hS, fun h0 => (hml h0).soft hS, A, hY.rt, O, .inr fun i hi => by have h1 := (Own.lt o3 i hi).1; omega, fun _ => hY⟩
end
end Go.Proofs.Ytofclanljhfkiaa
/- The reference's Take: the walk. -/
namespace Go.Proofs.Ytofclanljhfkiaa
open Go.RowKit Go.Proofs En Co
set_option linter.unusedVariables false
set_option linter.unusedSimpArgs false
set_option maxRecDepth 20000
attribute [local go_sem ↓] ld_point_eq ld_coin_eq ld_hash_eq st_point_eq st_coin_eq bd_point_eq bd_coin_eq eq_point_eq ne_point_eq al_coin_eq al_point_eq bs_coin_eq
attribute [local go_sem] ld_point_run ld_coin_run ld_hash_run st_point_run st_coin_run bd_point_zero bd_coin_zero bd_point_of bd_coin_of hash_at rowIs_34 rowIs_37 rowIs_both hasAt_both cellsAt_both eq_point_run ne_point_run guard_pt al_coin_run al_point_run al_coin_row al_point_row nil_bytes nil_coins bs_coin_run

set_option maxRecDepth 20000 in
set_option maxHeartbeats 4000000 in
theorem rtakeN_m {w : World} {base g : Nat} {Q : Option Addr} {ps : List (List Cn)} (h : RT w base g Q ps) (hmost : ps.flatten.length ≤ 2000) (hmany : ps.length ≤ 2000) (p : Pt) (hp : p.ok) :
    Calls Try.prog 85 #[ptr g, .agg (pc p).toArray] w fun e w' => rtakeEndN w w' e base g Q (takeM ps p) := by
  have hlow := h.low
  obtain ⟨np, cp, gs, h1, h2, h3, h4, h5, h6, h7⟩ := h.ex
  have hgl := (Array.getElem?_eq_some_iff.1 h1).1
  have hnp : gs.length = np := by have := h2.1; rw [List.length_map] at this; omega
  have hnp2 : np ≤ 2000 := by rw [← h6, pgsOf_length] at hmany; omega
  obtain ⟨f0, g0⟩ := two_box w (.cells (pc p).toArray 54) (.cells (cc zm).toArray 57)
  have b0 : Below w.heap.size w ((w.alloc (.cells (pc p).toArray 54)).alloc (.cells (cc zm).toArray 57)) := belA ((Below.refl _ _).alloc (Nat.le_refl _) _) _ (Nat.le_refl _)
  have hokz := cc_ok (m := zm) zeroPt_ok
  have hokz2 : okAgg (cc ⟨zeroCn, none, 0⟩).toArray 37 := hokz
  obtain ⟨q34, c34⟩ := row_has hp f0
  have GT := rget0_m h b0 (by omega) (by omega) p hp
  obtain ⟨fo, hfo⟩ : ∃ fo, findF ps p = fo := ⟨_, rfl⟩
  obtain ⟨q, hq⟩ : ∃ q, (getM ps p).2 = q := ⟨_, rfl⟩
  rw [hq] at GT
  have GT := Lib.hid GT
  have H := Lib.hid (And.intro h (And.intro hfo (And.intro hq (And.intro f0 (And.intro g0 b0)))))
  have HX := Lib.hid (And.intro h1 (And.intro h2 (And.intro h5 (And.intro h6 h7))))
  clear h h1 h2 h5 h6 h7 hfo hq f0 g0 b0
  go_enter Try.func85, Try.ntmps85
  go_wp2_with (fail)
  refine GT.out.mono ?_
  rintro e w2 ⟨m, rfl, hmc, hmok, hmf, hb2, hmw, hmfw⟩
  have hokm := cc_ok hmok.c.p
  have sl := slot_self w2 (.cells (cc zm).toArray 57) (cc m).toArray
  have r2 := both_row w2 (cc zm).toArray 57 (cc m).toArray
  have f3 := kept H.out.2.2.2.1 (bThen hb2 sl)
  have g3 := kept H.out.2.2.2.2.1 (bThen hb2 sl)
  have b3 := bThen H.out.2.2.2.2.2 (bThen hb2 sl)
  have hz2 : w.heap.size + 2 ≤ w2.heap.size := by have := hb2.size; simpa using this
  cases fo with
  | none =>
    have hq0 : q = 6 := by rw [← H.out.2.2.1, getM_none H.out.2.1]
    subst hq0
    have hr3 : rowIs ((w2.alloc (.cells (cc zm).toArray 57)).setRow w2.heap.size (cc m).toArray) (w.heap.size + 1) 37 := rowIs_of g3 (by simpa using cc_length (m := zm) zeroPt_ok)
    have B3 := Lib.hid b3
    clear hmc hmok hmf hb2 hmw hmfw sl r2 f3 g3 b3 q34 c34
    go_wp2_with (fail)
    refine bodyPost_ret (res_cell2 Try.results85 rfl (rd_coin_set hr3 hokz.1)) rfl ?_
    rw [takeM_no H.out.2.1]
    have bl := belSetRow B3.out (g := w.heap.size + 1) (by omega) (cc ⟨zeroCn, none, 0⟩).toArray
    exact ⟨⟨zeroCn, none, 0⟩, rfl, rfl, ⟨zeroCn_ok, RdN.nil _ _ _, IsB.nil, Nat.le_refl _, Nat.zero_le _, Nat.zero_le _⟩, fun h0 => absurd (show 0 < 0 from h0) (by omega), Q, H.out.1.below bl, Only.of bl, .inl rfl, fun h0 => absurd (show (6 : Int) = 0 from h0) (by decide)⟩
  | some d =>
    have hq0 : q = 0 := by rw [← H.out.2.2.1, getM_some H.out.2.1]
    subst hq0
    have s3 : TkR w w2 ((w2.alloc (.cells (cc zm).toArray 57)).setRow w2.heap.size (cc m).toArray) base w.heap.size p m ps 0 none 0 0 [] := ⟨sl, f3, g3, r2, Own.nil _ _ _ _ _, fun _ h => (by cases h), rfl⟩
    have M := Lib.hid (And.intro hmc (And.intro hmw (And.intro hmfw (bThen H.out.2.2.2.2.2 hb2))))
    clear hmc hmok hmf hb2 hmw hmfw sl r2 f3 g3 b3 q34 c34
    go_wp2_with (fail)
    go_loopw [8, 9, 10, 11] (fun a i _ _ wr => ∃ (j : Nat) (A : Option Addr) (q k : Nat) (gs1 : List Pg), j ≤ np ∧ i = .int .i64 j ∧ a = .slice A q k ∧ q ≤ j ∧ TkR w w2 wr base w.heap.size p m ps j A q k gs1) (fun _ i _ _ _ => np - (intOf i).toNat)
    case atStart => exact ⟨0, none, 0, 0, [], by omega, rfl, rfl, by omega, s3⟩
    case round =>
      clear s3
      obtain ⟨j, A, q, k, gs1, hj, rfl, rfl, hqj, hs⟩ := hrel
      have bw := bThen M.out.2.2.2 hs.bel
      have gr := kept HX.out.1 bw
      have c1 : wr.cell? ⟨g, 0, none⟩ = some (.slice Q np cp) := (row_cells gr 0).1
      by_cases hlt : j < np
      · obtain ⟨ad, x, hQ, hx, hbk, hc⟩ := rd_page (HX.out.2.1.below bw) hlt
        obtain rfl : Q = some ad := hQ
        have hxm := List.mem_of_getElem? hx
        have hfx := (HX.out.2.2.1 x hxm).below bw
        have d1 : decide ((j : Int) < (np : Int)) = true := decide_eq_true (by omega)
        have i1 : (0 : Int) ≤ (j : Int) := by omega
        have i2 : (j : Int) < (np : Int) := by omega
        have hps : ps[j]? = some (cns x.hs) := by rw [← HX.out.2.2.2.1]; unfold pgsOf; rw [List.getElem?_map, hx]; rfl
        have hxn : x.n ≤ 2000 := by
          have e1 : (cns x.hs).length ≤ ps.flatten.length := (List.sublist_flatten_of_mem (List.mem_of_getElem? hps)).length_le
          rw [cns_length, hfx.arg.len] at e1; omega
        obtain ⟨w9, hw9⟩ : ∃ w9, w9 = wr := ⟨_, rfl⟩
        subst hw9
        have t9 : TpR w9 w9 x p 0 none 0 0 [] := ⟨Below.refl _ _, Own.nil _ _ _ _ _, rfl, Nat.le_refl _, rfl, fun _ h => (by cases h)⟩
        have X := Lib.hid (And.intro hs (And.intro hfx (And.intro hps (And.intro gr (And.intro hc (And.intro bw (HX.out.2.2.1 x hxm)))))))
        clear hs hfx hps gr hc hx hxm bw c1
        have c1 : w9.cell? ⟨g, 0, none⟩ = some (.slice (some ad) np cp) := (row_cells X.out.2.2.2.1 0).1
        go_wp2_with (fail)
        go_loopw [10, 11] (fun a i wr => ∃ (i2 : Nat) (A2 : Option Addr) (n2 k2 : Nat) (hs2 : List Cm), i2 ≤ x.n ∧ i = .int .i64 i2 ∧ a = .slice A2 n2 k2 ∧ TpR w9 wr x p i2 A2 n2 k2 hs2) (fun _ i _ => x.n - (intOf i).toNat)
        case atStart => exact ⟨0, none, 0, 0, [], by omega, rfl, rfl, t9⟩
        case round =>
          clear t9 c1
          obtain ⟨i, A2, n2, k2, hs2, hi, rfl, rfl, ht⟩ := hrel
          have gr := kept X.out.2.2.2.1 ht.bel
          have c1 : wr.cell? ⟨g, 0, none⟩ = some (.slice (some ad) np cp) := (row_cells gr 0).1
          have cp1 : wr.cell? (ad.add j) = some (.slice x.A x.n x.c) := (World.cell?_of_block (by rw [block_add]; exact ht.bel.block _ hbk)).trans X.out.2.2.2.2.1
          have hit := ht.le
          by_cases hlt2 : i < x.n
          · obtain ⟨a2, mi, hA2, hmi, hok, hbk2, hcm⟩ := (X.out.2.1.below ht.bel).arg.at_ hlt2
            rw [hA2] at cp1
            have d2 : decide ((i : Int) < (x.n : Int)) = true := decide_eq_true (by omega)
            have i3 : (0 : Int) ≤ (i : Int) := by omega
            have i4 : (i : Int) < (x.n : Int) := by omega
            have frow := kept (X.out.1.rp) ht.bel
            obtain ⟨r, hr⟩ : ∃ r, decide (mi.c.p = p) = r := ⟨_, rfl⟩
            have oP : okPts (pc mi.c.p).toArray (pc p).toArray := ⟨mi.c.p, p, hok.c.p, hp, rfl, rfl⟩
            have eP : eqB (pc mi.c.p).toArray (pc p).toArray = r := by rw [eqB_pc hok.c.p hp]; exact hr
            have hci : (cns x.hs)[i]? = some mi.c := by unfold cns; rw [List.getElem?_map, hmi]; rfl
            have hS0 : Cell0 g (.slice (some ad) np cp) wr.drew ∧ wr.drew.cell? (ad.add j) = some (.slice (some a2) x.n x.c) ∧ StPP (a2.add (i * 37)) mi.c.p w.heap.size p wr.drew := ⟨Cell0.of gr, cp1, ld_point_at wr.drew _ mi hok.c.p hcm, row_has (w := wr.drew) hp frow⟩
            have hld := ld_coin_at wr.drew _ mi hok.c.p hcm
            have hokmi := cc_ok hok.c.p
            have c1d : wr.drew.cell? ⟨g, 0, none⟩ = some (.slice (some ad) np cp) := c1
            have cpd : wr.drew.cell? (ad.add j) = some (.slice (some a2) x.n x.c) := cp1
            have Y := Lib.hid (And.intro ht (And.intro hok (And.intro hr (And.intro hci (List.mem_of_getElem? hmi)))))
            clear ht hok hr hci hmi hA2 hcm frow gr
            cases r with
            | true =>
              go_wp2_with (fail)
              go_region_held3 (fun w' => Cell0 g (.slice (some ad) np cp) w' ∧ w'.cell? (ad.add j) = some (.slice (some a2) x.n x.c) ∧ StPP (a2.add (i * 37)) mi.c.p w.heap.size p w') (exact hS0) (fail)
              rename_i hHeldX
              clear hHeldX hS0
              go_wp2_with (fail)
              go_roundw
              case rel =>
                have t := Y.out.1
                exact ⟨i + 1, A2, n2, k2, hs2, by omega, by go_num, rfl, ⟨t.bel.drew, t.own.drew, t.len, by have := t.le; omega, by rw [lostF_next Y.out.2.2.2.1, if_pos (of_decide_eq_true Y.out.2.2.1), List.append_nil]; exact t.eq, t.mem⟩⟩
              case measure => simp [intOf]; omega
            | false =>
              go_wp2_with (fail)
              go_region_held3 (fun w' => Cell0 g (.slice (some ad) np cp) w' ∧ w'.cell? (ad.add j) = some (.slice (some a2) x.n x.c) ∧ StPP (a2.add (i * 37)) mi.c.p w.heap.size p w') (exact hS0) (fail)
              rename_i hHeldX
              clear hHeldX hS0
              go_wp2_with (at_builtin; refine Stop.mk ?_)
              refine Stop.out ?_
              have la : Below wr.drew.heap.size wr.drew (wr.drew.alloc (.cells (cc mi).toArray 57)) := (Below.refl _ _).alloc (Nat.le_refl _) _
              have orow := one_row wr.drew mi Y.out.2.1.c.p
              have bX := bThen Y.out.1.bel.drew la
              refine appC _ rfl (.tmp 56) (.tmp 67) rfl w9.heap.size A2 n2 k2 _ rfl (Y.out.1.own.drew.below la) ⟨some ⟨wr.heap.size, 0, none⟩, 1, 1, pcs [mi]⟩ rfl ⟨orow, pcs_one⟩ (by show n2 + 1 ≤ _; omega) bX.size ?_
              intro A4 k4 w4 ho4 hg4
              have b4 := bX.grown hg4 bX.size (fun i hi => (Own.lt Y.out.1.own i hi).1)
              have Z := Lib.hid (And.intro (show Own w4 w9.heap.size 57 37 (fun _ => True) A4 (n2 + 1) k4 (pcs hs2 ++ pcs [mi]) from ho4) b4)
              clear la orow bX ho4 hg4 b4 hld c1d cpd c1 cp1
              go_wp2_with (fail)
              go_roundw
              case rel =>
                have t := Y.out.1
                refine ⟨i + 1, A4, n2 + 1, k4, hs2 ++ [mi], by omega, by go_num, rfl, ⟨Z.out.2, by rw [pcs_append]; exact Z.out.1, by rw [List.length_append, t.len]; rfl, by have := t.le; omega, ?_, fun z hz => ?_⟩⟩
                · rw [lostF_next Y.out.2.2.2.1, if_neg (of_decide_eq_false Y.out.2.2.1), cns_append, t.eq]; rfl
                · rcases List.mem_append.1 hz with hz | hz
                  · exact t.mem z hz
                  · rcases List.mem_singleton.1 hz with rfl; exact Y.out.2.2.2.2
              case measure => simp [intOf]; omega
          · obtain rfl : i = x.n := by omega
            have d2 : decide ((x.n : Int) < (x.n : Int)) = false := decide_eq_false (by omega)
            have hall : (cns x.hs).take x.n = cns x.hs := List.take_of_length_le (by rw [cns_length, X.out.2.1.arg.len]; exact Nat.le_refl _)
            have heq := ht.eq
            rw [hall] at heq
            have hlen : (lostF (cns x.hs) p).length = n2 := by rw [← heq, cns_length, ht.len]
            have hnew : NewP w wr base w2.heap.size ⟨A2, n2, k2, hs2⟩ := ht.new X.out.2.2.2.2.2.2 X.out.1.bel.size
            have tk := X.out.1.below ht.bel
            by_cases hn0 : n2 = 0
            · subst hn0
              have Y := Lib.hid (tk.skip X.out.2.2.1 (by rw [hlen]; omega))
              clear hnew tk ht heq hlen hall gr
              go_wp2_with (fail)
              go_roundw
              case rel => exact ⟨j + 1, A, q, k, gs1, by omega, by go_num, rfl, by omega, Y.out⟩
              case measure => simp [intOf]; omega
            · have d3 : decide ((n2 : Int) > 0) = true := decide_eq_true (by omega)
              have d3b : decide (0 < n2) = true := decide_eq_true (by omega)
              have la : Below wr.heap.size wr (wr.alloc (.cells #[.slice A2 n2 k2] 22)) := (Below.refl _ _).alloc (Nat.le_refl _) _
              have Y := Lib.hid (And.intro (tk.below la) (And.intro (hnew.below la) (And.intro heq hlen)))
              clear hnew tk ht heq hlen hall gr la
              go_wp2_with (at_builtin; refine Stop.mk ?_)
              refine Stop.out ?_
              refine appP _ rfl (.tmp 72) (.tmp 74) rfl w2.heap.size A q k _ rfl Y.out.1.pages ⟨some ⟨wr.heap.size, 0, none⟩, 1, 1, [.slice A2 n2 k2]⟩ rfl ⟨(Own.lit (base := 0) (e := 22) (size := 1) (G := fun _ => True) wr #[.slice A2 n2 k2] 1 (Nat.zero_le _) (by decide) rfl (fun _ _ => trivial)).rd, fun u hu => by rcases List.mem_singleton.1 hu with rfl; rfl⟩ (by show q + 1 ≤ _; omega) Y.out.1.bel.size ?_
              intro A4 k4 w4 ho4 hg4
              have Z := Lib.hid (TkR.next (y := ⟨A2, n2, k2, hs2⟩) Y.out.1 hg4 ho4 Y.out.2.1 X.out.2.2.1 Y.out.2.2.1 (by rw [Y.out.2.2.2]; omega))
              clear ho4 hg4 c1 cp1
              go_wp2_with (fail)
              go_roundw
              case rel => exact ⟨j + 1, A4, q + 1, k4, gs1 ++ [⟨A2, n2, k2, hs2⟩], by omega, by go_num, rfl, by omega, Z.out⟩
              case measure => simp [intOf]; omega
      · obtain rfl : j = np := by omega
        have d1 : decide ((j : Int) < (j : Int)) = false := decide_eq_false (by omega)
        have f1 := (row_cells gr 0).2
        have e1 : w2.heap.size ≠ g := by omega
        have e2 : w.heap.size + 1 ≠ g := by omega
        have rm1 : (wr.setCell ⟨g, 0, none⟩ (.slice A q k)).heap[w2.heap.size]? = some (.cells (cc m).toArray 57 (0, 0)) := (Below.heap_setCell wr ⟨g, 0, none⟩ _ _ e1).trans hs.rm
        have rz1 : (wr.setCell ⟨g, 0, none⟩ (.slice A q k)).heap[w.heap.size + 1]? = some (.cells (cc zm).toArray 57 (0, 0)) := (Below.heap_setCell wr ⟨g, 0, none⟩ _ _ e2).trans hs.rz
        obtain ⟨⟨k37, c37⟩, _⟩ := coin_has M.out.2.1.c.p rm1
        have hr3 : rowIs (wr.setCell ⟨g, 0, none⟩ (.slice A q k)) (w.heap.size + 1) 37 := rowIs_of rz1 (by simpa using cc_length (m := zm) zeroPt_ok)
        have Y := Lib.hid hs
        have hpl : ps.length = j := by rw [← HX.out.2.2.2.1, pgsOf_length, hnp]
        clear hs rm1 rz1 gr bw
        go_wp2_with (fail)
        refine bodyPost_ret (res_cell2 Try.results85 rfl (rd_coin_set hr3 hokm.1)) rfl ?_
        exact TkR.done Y.out hlow hgl rfl hz2 M.out.2.2.2 HX.out.1 rfl (by omega) H.out.2.1 (by rw [M.out.1, getM_some H.out.2.1]) M.out.2.1 M.out.2.2.1
theorem rtake_m {w : World} {base g : Nat} {Q : Option Addr} {ps : List (List Cn)} (h : RT w base g Q ps) (hmost : ps.flatten.length ≤ 2000) (hmany : ps.length ≤ 2000) (p : Pt) (hp : p.ok) :
    Calls Try.prog 85 #[ptr g, .agg (pc p).toArray] w fun e w' => rtakeEnd w w' e base g Q (takeM ps p) := (rtakeN_m h hmost hmany p hp).mono fun e w' h => h.weak
end Go.Proofs.Ytofclanljhfkiaa
