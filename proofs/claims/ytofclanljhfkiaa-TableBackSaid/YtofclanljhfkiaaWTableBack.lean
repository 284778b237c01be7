/- Joined texts: TbQ. -/
import Derived.Test.YtofclanljhfkiaaM18
/- TableBack: behind Read of Bytes a table is the same. -/
namespace Go.Proofs.Ytofclanljhfkiaa
open Go.RowKit Go.Proofs En Co
set_option linter.unusedVariables false
set_option linter.unusedSimpArgs false
set_option maxRecDepth 20000
attribute [local go_sem ↓] ld_point_eq ld_coin_eq ld_hash_eq st_point_eq st_coin_eq bd_point_eq bd_coin_eq eq_point_eq ne_point_eq al_coin_eq al_point_eq bs_coin_eq
attribute [local go_sem] ld_point_run ld_coin_run ld_hash_run st_point_run st_coin_run bd_point_zero bd_coin_zero bd_point_of bd_coin_of hash_at rowIs_34 rowIs_37 rowIs_both hasAt_both cellsAt_both eq_point_run ne_point_run guard_pt al_coin_run al_point_run al_coin_row al_point_row nil_bytes nil_coins bs_coin_run

/-- the table while acts are done to it -/
structure BkS (w wr : World) (g : Nat) (P : Option Addr) (ps : List (List Cn)) (j : Nat) : Prop where
  bel : Below w.heap.size w wr
  t : Tb wr w.heap.size g P ps
  may : AllMay ps
  small : Small8 ps
  len : ps.flatten.length ≤ j
theorem BkS.below {w wr w2 : World} {g : Nat} {P : Option Addr} {ps : List (List Cn)} {j : Nat} (h : BkS w wr g P ps j) (hb : Below wr.heap.size wr w2) : BkS w w2 g P ps j := ⟨bThen h.bel hb, h.t.below hb, h.may, h.small, h.len⟩

set_option maxRecDepth 20000 in
set_option maxHeartbeats 4000000 in
theorem tableBack_walk (B : Option Addr) (n c : Nat) (xa : List Ac) (w : World) (ha' : ArgA w B n c xa ∧ c ≤ 1466015503702) :
    Calls Try.prog 7 #[.slice B n c] w fun e w' => e = .returned (.bool true) ∧ Below w.heap.size w w' := by
  obtain ⟨ha, hc⟩ := ha'
  have hcap := ha.cap
  have HA := Lib.hid ha
  clear ha
  go_enter Try.func7, Try.ntmps7
  go_wp2_with (fail)
  refine (new_m w).mono ?_
  rintro e w1 ⟨rfl, hT1, hb1⟩
  have s1 : BkS w w1 w.heap.size none [] 0 := ⟨hb1, hT1, AllMay.nil, fun l h => (by cases h), Nat.le_refl _⟩
  clear hT1 hb1
  go_wp2_with (fail)
  go_loopw [4] (fun i wr => ∃ (j : Nat) (P1 : Option Addr) (ps : List (List Cn)), j ≤ n ∧ j ≤ 80 ∧ i = .int .i64 j ∧ BkS w wr w.heap.size P1 ps j) (fun i _ => n - (intOf i).toNat)
  case atStart => exact ⟨0, none, [], by omega, by omega, rfl, s1⟩
  case round =>
    clear s1
    obtain ⟨j, P1, ps, hj, hj2, rfl, hs1⟩ := hrel
    by_cases hlt : j < n ∧ j < 80
    · obtain ⟨ad, a, rfl, hm, hok, hbk, hc0, hc1, hc2⟩ := (HA.out.below hs1.bel).at_ hlt.1
      have e0 : ∀ x : Addr, x.add 0 = x := fun x => by unfold Addr.add; simp
      rw [e0] at hc0
      have d1 : decide ((j : Int) < (n : Int)) = true := decide_eq_true (by omega)
      have d2 : decide ((j : Int) < 80) = true := decide_eq_true (by omega)
      have i1 : (0 : Int) ≤ (j : Int) := by omega
      have i2 : (j : Int) < (n : Int) := by omega
      have hld := ld_coin_at wr _ a.m hok.c.p hc1
      have hlp := ld_point_at wr _ a.m hok.c.p hc1
      have e1 : ∀ x : Addr, x.add 1 = ⟨x.block, x.off + 1, none⟩ := fun x => by unfold Addr.add; simp
      rw [e1] at hld hlp
      by_cases hd : a.d = 1
      · have d3 : (a.d == 1) = true := by rw [hd]; rfl
        have TK := take_m hs1.t a.m.c.p hok.c.p
        have X := Lib.hid hs1
        have TK := Lib.hid TK
        clear hs1 hm hok hc1 hc2 hd
        go_wp2_with (fail)
        refine TK.out.mono ?_
        rintro e w3 ⟨A3, k3, rfl, ho3l, P3, hT3, hk3, ho3⟩
        have Y : BkS w w3 w.heap.size P3 _ (j + 1) := ⟨X.out.bel.trans (X.out.t.frame ho3), hT3, X.out.may.take _, X.out.small.take _, Nat.le_trans (takeM_len _ _) (Nat.le_succ_of_le X.out.len)⟩
        have Y := Lib.hid Y
        clear hT3 hk3 ho3 ho3l
        go_wp2_with (fail)
        go_roundw
        case rel => exact ⟨j + 1, P3, _, by omega, by omega, by go_num, Y.out⟩
        case measure => simp [intOf]; omega
      · have d3 : (a.d == 1) = false := by simpa using hd
        have PU := put_m hs1.t a.m hok (far_of (HA.out.ok a (List.mem_of_getElem? hm)).2 (Nat.le_refl _))
        have X := Lib.hid hs1
        have PU := Lib.hid PU
        clear hs1 hm hok hc1 hc2 hd
        go_wp2_with (fail)
        refine PU.out.mono ?_
        rintro e w3 ⟨rfl, P3, hT3, hk3, ho3⟩
        have Y : BkS w w3 w.heap.size P3 _ (j + 1) := ⟨X.out.bel.trans (X.out.t.frame ho3), hT3, X.out.may.put _, X.out.small.put _, Nat.le_trans (putM_len _ _) (Nat.succ_le_succ X.out.len)⟩
        have Y := Lib.hid Y
        clear hT3 hk3 ho3
        go_wp2_with (fail)
        go_roundw
        case rel => exact ⟨j + 1, P3, _, by omega, by omega, by go_num, Y.out⟩
        case measure => simp [intOf]; omega
    · by_cases hjn : j < n
      · have d1 : decide ((j : Int) < (n : Int)) = true := decide_eq_true (by omega)
        have d2 : decide ((j : Int) < 80) = false := decide_eq_false (by omega)
        have hps := hs1.t.pos
        have hmost := hs1.t.most
        have hrise := hs1.t.rise
        have hplen : ps.length ≤ 80 := Nat.le_trans (pages_le hps) (by have := hs1.len; omega)
        have hflen : ps.flatten.length ≤ 80 := by have := hs1.len; omega
        have hokm : ∀ c ∈ ps.flatten, c.ok ∧ mayO c.v c.l = true := fun c hc => ⟨hs1.t.ok c hc, hs1.may c hc⟩
        have hbl : (tableF ps).length ≤ 20000 := by
          have h1 := pagesF_len (T := ps) fun l hl => ⟨hps l hl, fun c hc => (hokm c (List.mem_flatten.2 ⟨l, hl, hc⟩)).1⟩
          have h2 := countF_len9 ps.length
          rw [List.flatMap_id] at h1
          unfold tableF
          rw [List.length_append]
          omega
        have hrd : readTF (tableF ps) = (ps, 0) := readTF_table hokm (fun l hl => ⟨hps l hl, hs1.small l hl⟩) hmost hrise (by omega)
        have BY := Lib.hid (bytes_m hs1.t)
        have X := Lib.hid (And.intro hs1 (And.intro hps (And.intro hrise (And.intro hokm (And.intro hrd hs1.small)))))
        obtain ⟨nb, hnb⟩ : ∃ nb, (tableF ps).length = nb := ⟨_, rfl⟩
        have HNB := Lib.hid hnb
        rw [hnb] at BY hbl
        clear hs1 hps hrise hokm hrd hnb hlt
        go_wp2_with (fail)
        refine BY.out.mono ?_
        rintro e w3 ⟨A3, k3, rfl, ho3, hb3⟩
        have s3 := X.out.1.below hb3
        have hcp3 := Own.len_cap ho3
        have RD := read_m (n := nb) (c := k3) ⟨ho3.rd, tableF_bytes X.out.2.2.2.1, hcp3.1, hcp3.2, by omega⟩ X.out.2.2.2.2.1
        have S3 := Lib.hid s3
        have RD := Lib.hid RD
        clear s3 ho3 hb3
        go_wp2_with (fail)
        refine RD.out.mono ?_
        rintro e w4 ⟨hb4, ⟨h0, _⟩ | ⟨_, g2, P2, rfl, hT4⟩⟩
        · exact absurd rfl h0
        · have s4 := S3.out.below hb4
          have hu4 := hT4.mono S3.out.bel.size
          have LU := Lib.hid (len_m hu4)
          have S4 := Lib.hid (And.intro s4 hu4)
          clear s4 hu4 hb4 hT4
          obtain ⟨N, hN⟩ : ∃ N, ps.flatten.length = N := ⟨_, rfl⟩
          have HN := Lib.hid hN
          rw [hN] at LU hflen
          have LT := Lib.hid (len_m S4.out.1.t)
          rw [hN] at LT
          clear hN
          go_wp2_with (fail)
          refine LU.out.mono ?_
          rintro e w5 ⟨rfl, hw5⟩
          obtain rfl : w4 = w5 := hw5.symm
          go_wp2_with (fail)
          refine LT.out.mono ?_
          rintro e w6 ⟨rfl, hw6⟩
          obtain rfl : w4 = w6 := hw6.symm
          go_wp2_with (fail)
          go_loopw [7, 8] (fun m i wr => ∃ (i2 : Nat), i2 ≤ ps.length ∧ i = .int .i64 i2 ∧ m = .int .i64 (ps.take i2).flatten.length ∧ Below w4.heap.size w4 wr) (fun _ i _ => 100 - (intOf i).toNat)
          case atStart => exact ⟨0, by omega, rfl, rfl, Below.refl _ _⟩
          case round =>
            obtain ⟨i2, hi2, rfl, rfl, hbel⟩ := hrel
            have d4 : decide ((i2 : Int) < 100) = true := decide_eq_true (by omega)
            have PT := Lib.hid (page_m (S4.out.1.t.below hbel) i2 (by omega))
            have BL := Lib.hid hbel
            clear hbel
            by_cases hlt2 : i2 < ps.length
            · obtain ⟨l, hl⟩ : ∃ l, ps[i2]? = some l := ⟨_, List.getElem?_eq_getElem hlt2⟩
              have hpm : pageM ps i2 = (l, 0) := by
                unfold pageM
                rw [if_pos ⟨by omega, by omega⟩, Int.toNat_natCast, List.getD_eq_getElem?_getD, hl]; rfl
              rw [hpm] at PT
              have hl1 := X.out.2.1 l (List.mem_of_getElem? hl)
              have hl8 := X.out.2.2.2.2.2 l (List.mem_of_getElem? hl)
              have hnx : (ps.take (i2 + 1)).flatten.length = (ps.take i2).flatten.length + l.length := by rw [take_next hl, List.flatten_append, List.length_append]; simp
              have htot : (ps.take i2).flatten.length + l.length ≤ 2000 := by
                have h1 : (ps.take (i2 + 1)).flatten.length ≤ ps.flatten.length := by
                  conv => rhs; rw [← List.take_append_drop (i2 + 1) ps, List.flatten_append, List.length_append]
                  exact Nat.le_add_right _ _
                have := HN.out
                omega
              obtain ⟨t0, ht0⟩ : ∃ t0, (ps.take i2).flatten.length = t0 := ⟨_, rfl⟩
              rw [ht0] at hnx htot
              rw [ht0]
              have HX := Lib.hid (And.intro hnx ht0)
              clear hnx ht0
              go_wp2_with (fail)
              refine PT.out.mono ?_
              rintro e w7 ⟨A7, d7, hs7, rfl, hc7, ho7, hb7⟩
              have BL7 := Lib.hid (BL.out.trans (hb7.mono BL.out.size))
              have PU := page_m (S4.out.2.below BL7.out) i2 (by omega)
              rw [hpm] at PU
              have V7 := Lib.hid (And.intro ho7 hc7)
              have PU := Lib.hid PU
              clear ho7 hc7 hb7
              go_wp2_with (fail)
              refine PU.out.mono ?_
              rintro e w8 ⟨A8, d8, hs8, rfl, hc8, ho8, hb8⟩
              have SM := rsameL_any A7 l.length d7 hs7 A8 l.length d8 hs8 w8 (V7.out.1.below hb8).arg ho8.arg
              rw [show decide (cns hs7 = cns hs8) = true from decide_eq_true (by rw [V7.out.2, hc8])] at SM
              have BL8 := Lib.hid (BL7.out.trans (hb8.mono BL7.out.size))
              have SM := Lib.hid SM
              clear ho8 hc8 hb8
              have d5 : decide ((l.length : Int) < 1) = false := decide_eq_false (by omega)
              have d5b : ¬ (l.length = 0) := by omega
              have d6 : decide ((l.length : Int) > 8) = false := decide_eq_false (by omega)
              have d6b : ¬ (8 < l.length) := by omega
              have d6c : ¬ ((8 : Int) < (l.length : Int)) := by omega
              have hw8 : IntKind.i64.wrap ((t0 : Int) + (l.length : Int)) = (t0 : Int) + (l.length : Int) := wrap_i64s (by omega)
              go_wp2_with (fail)
              refine SM.out.mono ?_
              rintro e w9 ⟨rfl, hb9⟩
              have BL9 := Lib.hid (BL8.out.trans (hb9.mono BL8.out.size))
              clear hb9
              go_wp2_with (fail)
              go_roundw
              case rel => exact ⟨i2 + 1, by omega, by go_num, by rw [HX.out.1]; go_num, BL9.out⟩
              case measure => simp [intOf]; omega
            · obtain rfl : i2 = ps.length := by omega
              have hpm : pageM ps (ps.length : Int) = ([], 6) := by
                unfold pageM
                rw [if_neg (by omega)]
              rw [hpm] at PT
              have hall : ps.take ps.length = ps := List.take_length
              rw [hall, HN.out]
              clear hall
              go_wp2_with (fail)
              refine PT.out.mono ?_
              rintro e w7 ⟨A7, d7, hs7, rfl, hc7, ho7, hb7⟩
              have BL7 := Lib.hid (BL.out.trans (hb7.mono BL.out.size))
              have PU := page_m (S4.out.2.below BL7.out) (ps.length : Int) (by omega)
              rw [hpm] at PU
              have V7 := Lib.hid (And.intro ho7 hc7)
              have PU := Lib.hid PU
              clear ho7 hc7 hb7
              go_wp2_with (fail)
              refine PU.out.mono ?_
              rintro e w8 ⟨A8, d8, hs8, rfl, hc8, ho8, hb8⟩
              have SM := rsameL_any A7 _ d7 hs7 A8 _ d8 hs8 w8 (V7.out.1.below hb8).arg ho8.arg
              rw [show decide (cns hs7 = cns hs8) = true from decide_eq_true (by rw [V7.out.2, hc8])] at SM
              have BL8 := Lib.hid (BL7.out.trans (hb8.mono BL7.out.size))
              have SM := Lib.hid SM
              clear ho8 hc8 hb8
              go_wp2_with (fail)
              refine SM.out.mono ?_
              rintro e w9 ⟨rfl, hb9⟩
              have BL9 := Lib.hid (BL8.out.trans (hb9.mono BL8.out.size))
              have AL := all_m (S4.out.1.t.below BL9.out)
              rw [HN.out] at AL
              have AL := Lib.hid AL
              clear hb9
              go_wp2_with (fail)
              refine AL.out.mono ?_
              rintro e w10 ⟨A10, d10, hs10, rfl, hc10, ho10, hb10⟩
              have BL10 := Lib.hid (BL9.out.trans (hb10.mono BL9.out.size))
              have V10 := Lib.hid (And.intro ho10 hc10)
              clear ho10 hc10 hb10
              go_wp2_with (fail)
              go_loopw [14] (fun i wr => ∃ (k : Nat), (k + 1 ≤ N ∨ k = 0) ∧ i = .int .i64 ((k : Int) + 1) ∧ Below w10.heap.size w10 wr) (fun i _ => N - (intOf i).toNat)
              case atStart => exact ⟨0, .inr rfl, rfl, Below.refl _ _⟩
              case round =>
                obtain ⟨k, hk, rfl, hbel2⟩ := hrel
                by_cases hlt3 : k + 1 < N
                · have d7 : decide ((k : Int) + 1 < (N : Int)) = true := decide_eq_true (by omega)
                  obtain ⟨ad, m1, hA1, hm1, hok1, hbk1, hcc1⟩ := (V10.out.1.below hbel2).arg.at_ (k := k) (by omega)
                  obtain ⟨ad2, m2, hA2, hm2, hok2, hbk2, hcc2⟩ := (V10.out.1.below hbel2).arg.at_ (k := k + 1) (by omega)
                  obtain rfl : ad = ad2 := Option.some.inj (hA1.symm.trans hA2)
                  subst hA1
                  have hpc : ∀ {m : Cm} {x : Addr}, (∀ j v, (cc m)[j]? = some v → wr.cell? (x.add j) = some v) → ∀ j u, (pc m.c.p)[j]? = some u → wr.cell? (x.add j) = some u := fun {m x} h j u hu => h j u (by
                    have := (List.getElem?_eq_some_iff.1 hu).1
                    unfold cc
                    rw [List.getElem?_append_left this]
                    exact hu)
                  have hS1 : StLL (ad.add (k * 37)) m1.c.p (ad.add ((k + 1) * 37)) m2.c.p wr.drew := StLL.of (Below.refl _ _).drew hok1.c.p (by rw [block_add]; exact hbk1) (hpc hcc1) hok2.c.p (by rw [block_add]; exact hbk2) (hpc hcc2)
                  have hless : lessF m1.c.p m2.c.p = true := by
                    have h1 : ps.flatten[k]? = some m1.c := by rw [← V10.out.2]; unfold cns; rw [List.getElem?_map, hm1]; rfl
                    have h2 : ps.flatten[k + 1]? = some m2.c := by rw [← V10.out.2]; unfold cns; rw [List.getElem?_map, hm2]; rfl
                    exact (X.out.2.2.1).up k (k + 1) _ _ (by omega) (by rw [List.getElem?_map, h1]; rfl) (by rw [List.getElem?_map, h2]; rfl)
                  have hw9 : IntKind.i64.wrap (k : Int) = (k : Int) := wrap_i64s (by omega)
                  have hw9b : IntKind.i64.wrap ((k : Int) + 1 - 1) = (k : Int) := by rw [wrap_i64s (by omega)]; omega
                  have hw9c : IntKind.i64.wrap ((k : Int) + 1 + 1) = (k : Int) + 1 + 1 := wrap_i64s (by omega)
                  have i1 : (0 : Int) ≤ (k : Int) := by omega
                  have i2' : (k : Int) < (N : Int) := by omega
                  have i3 : (0 : Int) ≤ (k : Int) + 1 := by omega
                  have i4 : (k : Int) + 1 < (N : Int) := by omega
                  have tn : ((k : Int) + 1).toNat = k + 1 := by omega
                  have BB := Lib.hid (And.intro hbel2 (And.intro hok1 (And.intro hok2 (And.intro hless (And.intro hbk1 (And.intro hbk2 (And.intro hcc1 (And.intro hcc2 @hpc))))))))
                  clear hbel2 hm1 hm2 hok1 hok2 hless hcc1 hcc2 hA2 hpc
                  go_wp2_with (fail)
                  go_region_held3 (fun w' => StLL (ad.add (k * 37)) m1.c.p (ad.add ((k + 1) * 37)) m2.c.p w') (first | exact hS2 | exact hS1)
                    (first | (go_at_call 35; (with_reducible refine (rless_is BB.out.2.1.c.p BB.out.2.2.1.c.p BB.out.2.2.2.1).mono ?_); rintro e w12 ⟨rfl, hb12⟩; have hS2 : StLL (ad.add (k * 37)) m1.c.p (ad.add ((k + 1) * 37)) m2.c.p w12 := StLL.of ((Below.refl _ _).drew.trans hb12) BB.out.2.1.c.p (by rw [block_add]; exact BB.out.2.2.2.2.1) (BB.out.2.2.2.2.2.2.2.2 BB.out.2.2.2.2.2.2.1) BB.out.2.2.1.c.p (by rw [block_add]; exact BB.out.2.2.2.2.2.1) (BB.out.2.2.2.2.2.2.2.2 BB.out.2.2.2.2.2.2.2.1)))
                  rename_i hHeldX
                  have B12 := Lib.hid (bThen BB.out.1 ((Below.refl wr.heap.size wr).drew.trans hb12))
                  clear hHeldX hS1 hS2 hb12
                  go_wp2_with (fail)
                  go_roundw
                  case rel => exact ⟨k + 1, .inl (by omega), by go_num, B12.out⟩
                  case measure => simp [intOf]; omega
                · have d7 : decide ((k : Int) + 1 < (N : Int)) = false := decide_eq_false (by omega)
                  have BL12 := Lib.hid (BL10.out.trans (hbel2.mono BL10.out.size))
                  have LT2 := len_m (S4.out.1.t.below BL12.out)
                  rw [HN.out] at LT2
                  have LT2 := Lib.hid LT2
                  obtain ⟨w12, hw12⟩ : ∃ w12, w12 = wr := ⟨_, rfl⟩
                  subst hw12
                  clear hbel2
                  go_wp2_with (fail)
                  refine LT2.out.mono ?_
                  rintro e w13 ⟨rfl, hw13⟩
                  obtain rfl : w12 = w13 := hw13.symm
                  go_wp2_with (fail)
                  refine (works24_any w12).mono ?_
                  rintro e w14 ⟨rfl, hb14⟩
                  have B14 := Lib.hid (bThen (S4.out.1.below BL12.out).bel hb14)
                  clear hb14
                  go_wp2_with (fail)
                  go_ret
                  exact ⟨rfl, B14.out⟩
      · have d1 : decide ((j : Int) < (n : Int)) = false := decide_eq_false (by omega)
        have hps := hs1.t.pos
        have hmost := hs1.t.most
        have hrise := hs1.t.rise
        have hplen : ps.length ≤ 80 := Nat.le_trans (pages_le hps) (by have := hs1.len; omega)
        have hflen : ps.flatten.length ≤ 80 := by have := hs1.len; omega
        have hokm : ∀ c ∈ ps.flatten, c.ok ∧ mayO c.v c.l = true := fun c hc => ⟨hs1.t.ok c hc, hs1.may c hc⟩
        have hbl : (tableF ps).length ≤ 20000 := by
          have h1 := pagesF_len (T := ps) fun l hl => ⟨hps l hl, fun c hc => (hokm c (List.mem_flatten.2 ⟨l, hl, hc⟩)).1⟩
          have h2 := countF_len9 ps.length
          rw [List.flatMap_id] at h1
          unfold tableF
          rw [List.length_append]
          omega
        have hrd : readTF (tableF ps) = (ps, 0) := readTF_table hokm (fun l hl => ⟨hps l hl, hs1.small l hl⟩) hmost hrise (by omega)
        have BY := Lib.hid (bytes_m hs1.t)
        have X := Lib.hid (And.intro hs1 (And.intro hps (And.intro hrise (And.intro hokm (And.intro hrd hs1.small)))))
        obtain ⟨nb, hnb⟩ : ∃ nb, (tableF ps).length = nb := ⟨_, rfl⟩
        have HNB := Lib.hid hnb
        rw [hnb] at BY hbl
        clear hs1 hps hrise hokm hrd hnb hlt
        go_wp2_with (fail)
        refine BY.out.mono ?_
        rintro e w3 ⟨A3, k3, rfl, ho3, hb3⟩
        have s3 := X.out.1.below hb3
        have hcp3 := Own.len_cap ho3
        have RD := read_m (n := nb) (c := k3) ⟨ho3.rd, tableF_bytes X.out.2.2.2.1, hcp3.1, hcp3.2, by omega⟩ X.out.2.2.2.2.1
        have S3 := Lib.hid s3
        have RD := Lib.hid RD
        clear s3 ho3 hb3
        go_wp2_with (fail)
        refine RD.out.mono ?_
        rintro e w4 ⟨hb4, ⟨h0, _⟩ | ⟨_, g2, P2, rfl, hT4⟩⟩
        · exact absurd rfl h0
        · have s4 := S3.out.below hb4
          have hu4 := hT4.mono S3.out.bel.size
          have LU := Lib.hid (len_m hu4)
          have S4 := Lib.hid (And.intro s4 hu4)
          clear s4 hu4 hb4 hT4
          obtain ⟨N, hN⟩ : ∃ N, ps.flatten.length = N := ⟨_, rfl⟩
          have HN := Lib.hid hN
          rw [hN] at LU hflen
          have LT := Lib.hid (len_m S4.out.1.t)
          rw [hN] at LT
          clear hN
          go_wp2_with (fail)
          refine LU.out.mono ?_
          rintro e w5 ⟨rfl, hw5⟩
          obtain rfl : w4 = w5 := hw5.symm
          go_wp2_with (fail)
          refine LT.out.mono ?_
          rintro e w6 ⟨rfl, hw6⟩
          obtain rfl : w4 = w6 := hw6.symm
          go_wp2_with (fail)
          go_loopw [7, 8] (fun m i wr => ∃ (i2 : Nat), i2 ≤ ps.length ∧ i = .int .i64 i2 ∧ m = .int .i64 (ps.take i2).flatten.length ∧ Below w4.heap.size w4 wr) (fun _ i _ => 100 - (intOf i).toNat)
          case atStart => exact ⟨0, by omega, rfl, rfl, Below.refl _ _⟩
          case round =>
            obtain ⟨i2, hi2, rfl, rfl, hbel⟩ := hrel
            have d4 : decide ((i2 : Int) < 100) = true := decide_eq_true (by omega)
            have PT := Lib.hid (page_m (S4.out.1.t.below hbel) i2 (by omega))
            have BL := Lib.hid hbel
            clear hbel
            by_cases hlt2 : i2 < ps.length
            · obtain ⟨l, hl⟩ : ∃ l, ps[i2]? = some l := ⟨_, List.getElem?_eq_getElem hlt2⟩
              have hpm : pageM ps i2 = (l, 0) := by
                unfold pageM
                rw [if_pos ⟨by omega, by omega⟩, Int.toNat_natCast, List.getD_eq_getElem?_getD, hl]; rfl
              rw [hpm] at PT
              have hl1 := X.out.2.1 l (List.mem_of_getElem? hl)
              have hl8 := X.out.2.2.2.2.2 l (List.mem_of_getElem? hl)
              have hnx : (ps.take (i2 + 1)).flatten.length = (ps.take i2).flatten.length + l.length := by rw [take_next hl, List.flatten_append, List.length_append]; simp
              have htot : (ps.take i2).flatten.length + l.length ≤ 2000 := by
                have h1 : (ps.take (i2 + 1)).flatten.length ≤ ps.flatten.length := by
                  conv => rhs; rw [← List.take_append_drop (i2 + 1) ps, List.flatten_append, List.length_append]
                  exact Nat.le_add_right _ _
                have := HN.out
                omega
              obtain ⟨t0, ht0⟩ : ∃ t0, (ps.take i2).flatten.length = t0 := ⟨_, rfl⟩
              rw [ht0] at hnx htot
              rw [ht0]
              have HX := Lib.hid (And.intro hnx ht0)
              clear hnx ht0
              go_wp2_with (fail)
              refine PT.out.mono ?_
              rintro e w7 ⟨A7, d7, hs7, rfl, hc7, ho7, hb7⟩
              have BL7 := Lib.hid (BL.out.trans (hb7.mono BL.out.size))
              have PU := page_m (S4.out.2.below BL7.out) i2 (by omega)
              rw [hpm] at PU
              have V7 := Lib.hid (And.intro ho7 hc7)
              have PU := Lib.hid PU
              clear ho7 hc7 hb7
              go_wp2_with (fail)
              refine PU.out.mono ?_
              rintro e w8 ⟨A8, d8, hs8, rfl, hc8, ho8, hb8⟩
              have SM := rsameL_any A7 l.length d7 hs7 A8 l.length d8 hs8 w8 (V7.out.1.below hb8).arg ho8.arg
              rw [show decide (cns hs7 = cns hs8) = true from decide_eq_true (by rw [V7.out.2, hc8])] at SM
              have BL8 := Lib.hid (BL7.out.trans (hb8.mono BL7.out.size))
              have SM := Lib.hid SM
              clear ho8 hc8 hb8
              have d5 : decide ((l.length : Int) < 1) = false := decide_eq_false (by omega)
              have d5b : ¬ (l.length = 0) := by omega
              have d6 : decide ((l.length : Int) > 8) = false := decide_eq_false (by omega)
              have d6b : ¬ (8 < l.length) := by omega
              have d6c : ¬ ((8 : Int) < (l.length : Int)) := by omega
              have hw8 : IntKind.i64.wrap ((t0 : Int) + (l.length : Int)) = (t0 : Int) + (l.length : Int) := wrap_i64s (by omega)
              go_wp2_with (fail)
              refine SM.out.mono ?_
              rintro e w9 ⟨rfl, hb9⟩
              have BL9 := Lib.hid (BL8.out.trans (hb9.mono BL8.out.size))
              clear hb9
              go_wp2_with (fail)
              go_roundw
              case rel => exact ⟨i2 + 1, by omega, by go_num, by rw [HX.out.1]; go_num, BL9.out⟩
              case measure => simp [intOf]; omega
            · obtain rfl : i2 = ps.length := by omega
              have hpm : pageM ps (ps.length : Int) = ([], 6) := by
                unfold pageM
                rw [if_neg (by omega)]
              rw [hpm] at PT
              have hall : ps.take ps.length = ps := List.take_length
              rw [hall, HN.out]
              clear hall
              go_wp2_with (fail)
              refine PT.out.mono ?_
              rintro e w7 ⟨A7, d7, hs7, rfl, hc7, ho7, hb7⟩
              have BL7 := Lib.hid (BL.out.trans (hb7.mono BL.out.size))
              have PU := page_m (S4.out.2.below BL7.out) (ps.length : Int) (by omega)
              rw [hpm] at PU
              have V7 := Lib.hid (And.intro ho7 hc7)
              have PU := Lib.hid PU
              clear ho7 hc7 hb7
              go_wp2_with (fail)
              refine PU.out.mono ?_
              rintro e w8 ⟨A8, d8, hs8, rfl, hc8, ho8, hb8⟩
              have SM := rsameL_any A7 _ d7 hs7 A8 _ d8 hs8 w8 (V7.out.1.below hb8).arg ho8.arg
              rw [show decide (cns hs7 = cns hs8) = true from decide_eq_true (by rw [V7.out.2, hc8])] at SM
              have BL8 := Lib.hid (BL7.out.trans (hb8.mono BL7.out.size))
              have SM := Lib.hid SM
              clear ho8 hc8 hb8
              go_wp2_with (fail)
              refine SM.out.mono ?_
              rintro e w9 ⟨rfl, hb9⟩
              have BL9 := Lib.hid (BL8.out.trans (hb9.mono BL8.out.size))
              have AL := all_m (S4.out.1.t.below BL9.out)
              rw [HN.out] at AL
              have AL := Lib.hid AL
              clear hb9
              go_wp2_with (fail)
              refine AL.out.mono ?_
              rintro e w10 ⟨A10, d10, hs10, rfl, hc10, ho10, hb10⟩
              have BL10 := Lib.hid (BL9.out.trans (hb10.mono BL9.out.size))
              have V10 := Lib.hid (And.intro ho10 hc10)
              clear ho10 hc10 hb10
              go_wp2_with (fail)
              go_loopw [14] (fun i wr => ∃ (k : Nat), (k + 1 ≤ N ∨ k = 0) ∧ i = .int .i64 ((k : Int) + 1) ∧ Below w10.heap.size w10 wr) (fun i _ => N - (intOf i).toNat)
              case atStart => exact ⟨0, .inr rfl, rfl, Below.refl _ _⟩
              case round =>
                obtain ⟨k, hk, rfl, hbel2⟩ := hrel
                by_cases hlt3 : k + 1 < N
                · have d7 : decide ((k : Int) + 1 < (N : Int)) = true := decide_eq_true (by omega)
                  obtain ⟨ad, m1, hA1, hm1, hok1, hbk1, hcc1⟩ := (V10.out.1.below hbel2).arg.at_ (k := k) (by omega)
                  obtain ⟨ad2, m2, hA2, hm2, hok2, hbk2, hcc2⟩ := (V10.out.1.below hbel2).arg.at_ (k := k + 1) (by omega)
                  obtain rfl : ad = ad2 := Option.some.inj (hA1.symm.trans hA2)
                  subst hA1
                  have hpc : ∀ {m : Cm} {x : Addr}, (∀ j v, (cc m)[j]? = some v → wr.cell? (x.add j) = some v) → ∀ j u, (pc m.c.p)[j]? = some u → wr.cell? (x.add j) = some u := fun {m x} h j u hu => h j u (by
                    have := (List.getElem?_eq_some_iff.1 hu).1
                    unfold cc
                    rw [List.getElem?_append_left this]
                    exact hu)
                  have hS1 : StLL (ad.add (k * 37)) m1.c.p (ad.add ((k + 1) * 37)) m2.c.p wr.drew := StLL.of (Below.refl _ _).drew hok1.c.p (by rw [block_add]; exact hbk1) (hpc hcc1) hok2.c.p (by rw [block_add]; exact hbk2) (hpc hcc2)
                  have hless : lessF m1.c.p m2.c.p = true := by
                    have h1 : ps.flatten[k]? = some m1.c := by rw [← V10.out.2]; unfold cns; rw [List.getElem?_map, hm1]; rfl
                    have h2 : ps.flatten[k + 1]? = some m2.c := by rw [← V10.out.2]; unfold cns; rw [List.getElem?_map, hm2]; rfl
                    exact (X.out.2.2.1).up k (k + 1) _ _ (by omega) (by rw [List.getElem?_map, h1]; rfl) (by rw [List.getElem?_map, h2]; rfl)
                  have hw9 : IntKind.i64.wrap (k : Int) = (k : Int) := wrap_i64s (by omega)
                  have hw9b : IntKind.i64.wrap ((k : Int) + 1 - 1) = (k : Int) := by rw [wrap_i64s (by omega)]; omega
                  have hw9c : IntKind.i64.wrap ((k : Int) + 1 + 1) = (k : Int) + 1 + 1 := wrap_i64s (by omega)
                  have i1 : (0 : Int) ≤ (k : Int) := by omega
                  have i2' : (k : Int) < (N : Int) := by omega
                  have i3 : (0 : Int) ≤ (k : Int) + 1 := by omega
                  have i4 : (k : Int) + 1 < (N : Int) := by omega
                  have tn : ((k : Int) + 1).toNat = k + 1 := by omega
                  have BB := Lib.hid (And.intro hbel2 (And.intro hok1 (And.intro hok2 (And.intro hless (And.intro hbk1 (And.intro hbk2 (And.intro hcc1 (And.intro hcc2 @hpc))))))))
                  clear hbel2 hm1 hm2 hok1 hok2 hless hcc1 hcc2 hA2 hpc
                  go_wp2_with (fail)
                  go_region_held3 (fun w' => StLL (ad.add (k * 37)) m1.c.p (ad.add ((k + 1) * 37)) m2.c.p w') (first | exact hS2 | exact hS1)
                    (first | (go_at_call 35; (with_reducible refine (rless_is BB.out.2.1.c.p BB.out.2.2.1.c.p BB.out.2.2.2.1).mono ?_); rintro e w12 ⟨rfl, hb12⟩; have hS2 : StLL (ad.add (k * 37)) m1.c.p (ad.add ((k + 1) * 37)) m2.c.p w12 := StLL.of ((Below.refl _ _).drew.trans hb12) BB.out.2.1.c.p (by rw [block_add]; exact BB.out.2.2.2.2.1) (BB.out.2.2.2.2.2.2.2.2 BB.out.2.2.2.2.2.2.1) BB.out.2.2.1.c.p (by rw [block_add]; exact BB.out.2.2.2.2.2.1) (BB.out.2.2.2.2.2.2.2.2 BB.out.2.2.2.2.2.2.2.1)))
                  rename_i hHeldX
                  have B12 := Lib.hid (bThen BB.out.1 ((Below.refl wr.heap.size wr).drew.trans hb12))
                  clear hHeldX hS1 hS2 hb12
                  go_wp2_with (fail)
                  go_roundw
                  case rel => exact ⟨k + 1, .inl (by omega), by go_num, B12.out⟩
                  case measure => simp [intOf]; omega
                · have d7 : decide ((k : Int) + 1 < (N : Int)) = false := decide_eq_false (by omega)
                  have BL12 := Lib.hid (BL10.out.trans (hbel2.mono BL10.out.size))
                  have LT2 := len_m (S4.out.1.t.below BL12.out)
                  rw [HN.out] at LT2
                  have LT2 := Lib.hid LT2
                  obtain ⟨w12, hw12⟩ : ∃ w12, w12 = wr := ⟨_, rfl⟩
                  subst hw12
                  clear hbel2
                  go_wp2_with (fail)
                  refine LT2.out.mono ?_
                  rintro e w13 ⟨rfl, hw13⟩
                  obtain rfl : w12 = w13 := hw13.symm
                  go_wp2_with (fail)
                  refine (works24_any w12).mono ?_
                  rintro e w14 ⟨rfl, hb14⟩
                  have B14 := Lib.hid (bThen (S4.out.1.below BL12.out).bel hb14)
                  clear hb14
                  go_wp2_with (fail)
                  go_ret
                  exact ⟨rfl, B14.out⟩
end Go.Proofs.Ytofclanljhfkiaa
