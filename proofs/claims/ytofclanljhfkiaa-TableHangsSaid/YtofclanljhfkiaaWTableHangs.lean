/- Joined texts: TbN. -/
import Derived.Test.YtofclanljhfkiaaM17
/- TableHangs: All hangs on the coins alone. -/
namespace Go.Proofs.Ytofclanljhfkiaa
open Go.RowKit Go.Proofs En Co
set_option linter.unusedVariables false
set_option linter.unusedSimpArgs false
set_option maxRecDepth 20000
attribute [local go_sem ↓] ld_point_eq ld_coin_eq ld_hash_eq st_point_eq st_coin_eq bd_point_eq bd_coin_eq eq_point_eq ne_point_eq al_coin_eq al_point_eq bs_coin_eq
attribute [local go_sem] ld_point_run ld_coin_run ld_hash_run st_point_run st_coin_run bd_point_zero bd_coin_zero bd_point_of bd_coin_of hash_at rowIs_34 rowIs_37 rowIs_both hasAt_both cellsAt_both eq_point_run ne_point_run guard_pt al_coin_run al_point_run al_coin_row al_point_row nil_bytes nil_coins bs_coin_run

/-- all coins may be -/
def AllMay (ps : List (List Cn)) : Prop := ∀ c ∈ ps.flatten, mayO c.v c.l = true
theorem AllMay.nil : AllMay [] := fun c h => by cases h
theorem AllMay.put {ps : List (List Cn)} (h : AllMay ps) (c : Cn) : AllMay (putM ps c).1 := by
  unfold putM
  split
  · rename_i h1
    split
    · exact h
    · split
      · exact h
      · intro d hd
        rcases List.mem_cons.1 ((putF2_perm ps c).subset hd) with rfl | hd
        · exact h1
        · exact h d hd
  · exact h
theorem AllMay.take {ps : List (List Cn)} (h : AllMay ps) (p : Pt) : AllMay (takeM ps p).1 := by
  unfold takeM
  split
  · intro d hd
    have hd : d ∈ (takeF2 ps p).flatten := hd
    rw [lostF_flat] at hd
    exact h d (List.mem_filter.1 hd).1
  · exact h
theorem ArgP.pre {w : World} {B : Option Addr} {n c : Nat} {hs : List Cm} (h : ArgP w B n c hs) {k : Nat} (hk : k ≤ n) : ArgP w B k c (hs.take k) := by
  have hp := Part.ok.pre (size := 37) (A := B) (n := n) (c := c) (cs := pcs hs) ⟨h.rd, pcs_one⟩ hk
  have h1 := hp.1
  refine ⟨?_, fun m hm => h.ok m (List.mem_of_mem_take hm), by rw [List.length_take, h.len]; omega, Nat.le_trans hk h.cap, h.max⟩
  have e : (pcs hs).take (k * 37) = pcs (hs.take k) := pcs_take h.pok k
  rw [← e]
  exact h1
theorem far_of {w : World} {m : Cm} (h : m.ok w) {g : Nat} (hg : w.heap.size ≤ g) : 0 < m.c.l.length → blk m.A ≠ some g := by
  intro h0 e
  obtain ⟨ad, he, hb, _⟩ := h.arg.rd.2 h0
  rw [he] at e
  have e2 : ad.block = g := by simpa [blk] using e
  omega

/-- two tables -/
structure TwoS (w wr : World) (g1 : Nat) (P1 : Option Addr) (ps : List (List Cn)) (g2 : Nat) (P2 : Option Addr) (qs : List (List Cn)) : Prop where
  bel : Below w.heap.size w wr
  t : Tb wr w.heap.size g1 P1 ps
  u : Tb wr w.heap.size g2 P2 qs
  ne : g1 ≠ g2
  sep : ∀ k, blk P1 = some k → blk P2 ≠ some k
section
variable {w wr w2 : World} {g1 g2 : Nat} {P1 P2 P' : Option Addr} {ps qs rs : List (List Cn)}
theorem TwoS.below (h : TwoS w wr g1 P1 ps g2 P2 qs) (hb : Below wr.heap.size wr w2) : TwoS w w2 g1 P1 ps g2 P2 qs := ⟨bThen h.bel hb, h.t.below hb, h.u.below hb, h.ne, h.sep⟩
theorem TwoS.only1 (h : TwoS w wr g1 P1 ps g2 P2 qs) (ho : Only wr w2 g1 P1) (ht : Tb w2 w.heap.size g1 P' rs) (hk : Kept wr P1 P') : TwoS w w2 g1 P' rs g2 P2 qs := by
  refine ⟨h.bel.trans (h.t.frame ho), ht, h.u.only ho h.t.kinds h.ne.symm h.sep, h.ne, ?_⟩
  rcases hk with rfl | hk
  · exact h.sep
  · intro k h1 h2
    have := hk k h1
    have := (h.u.plow k h2).2
    omega
theorem TwoS.only2 (h : TwoS w wr g1 P1 ps g2 P2 qs) (ho : Only wr w2 g2 P2) (ht : Tb w2 w.heap.size g2 P' rs) (hk : Kept wr P2 P') : TwoS w w2 g1 P1 ps g2 P' rs := by
  refine ⟨h.bel.trans (h.u.frame ho), h.t.only ho h.u.kinds h.ne (fun k h1 h2 => h.sep k h2 h1), ht, h.ne, ?_⟩
  rcases hk with rfl | hk
  · exact h.sep
  · intro k h1 h2
    have := hk k h2
    have := (h.t.plow k h1).2
    omega
end
theorem back_next {qs : List (List Cn)} {l : List Cn} {k : Nat} {c : Cn} (hr : Rise (l.map Cn.p)) (hm : mayO c.v c.l = true) (hc : l[k]? = some c) (h : qs.flatten.Perm (l.drop (k + 1))) (hl : l.length ≤ 2000) : (putM qs c).2 = 0 ∧ (putM qs c).1.flatten.Perm (l.drop k) := by
  have hk := (List.getElem?_eq_some_iff.1 hc).1
  have ec := (List.getElem?_eq_some_iff.1 hc).2
  have hd : l.drop k = c :: l.drop (k + 1) := by rw [List.drop_eq_getElem_cons hk, ec]
  have hr2 : Rise ((l.drop k).map Cn.p) := hr.sub (List.Sublist.map _ (List.drop_sublist _ _))
  rw [hd] at hr2
  have hr3 := List.pairwise_cons.1 (show Rise (c.p :: (l.drop (k + 1)).map Cn.p) from hr2)
  have hf : findF qs c.p = none := findF_perm h fun d hd2 e => by
    have := hr3.1 d.p (List.mem_map.2 ⟨d, hd2, rfl⟩)
    rw [e, lessF_self] at this; cases this
  have hql : qs.flatten.length < 2000 := by rw [h.length_eq, List.length_drop]; omega
  rw [putM_ok hm hf hql]
  refine ⟨rfl, (putF2_perm qs c).trans ?_⟩
  rw [hd]
  exact (List.perm_cons c).2 h

set_option maxRecDepth 20000 in
set_option maxHeartbeats 4000000 in
theorem tableHangs_walk (B : Option Addr) (n c : Nat) (hs : List Cm) (w : World) (ha' : ArgP w B n c hs ∧ c ≤ 1759218604392) :
    Calls Try.prog 6 #[.slice B n c] w fun e w' => e = .returned (.bool true) ∧ Below w.heap.size w w' := by
  obtain ⟨ha, hc⟩ := ha'
  have hcap := ha.cap
  by_cases hn : n > 60
  · have HA := Lib.hid (ha.pre (k := 60) (by omega))
    have d0 : decide ((n : Int) > 60) = true := decide_eq_true (by omega)
    have j1 : (60 : Int) ≤ (c : Int) := by omega
    have j2 : (60 : Int) ≤ (n : Int) := by omega
    have j3 : (n : Int) ≤ (c : Int) := by omega
    clear ha
    go_enter Try.func6, Try.ntmps6
    go_wp2_with (fail)
    refine (new_m w).mono ?_
    rintro e w1 ⟨rfl, hT1, hb1⟩
    have NW := Lib.hid (new_m w1)
    have H1 := Lib.hid (And.intro hT1 hb1)
    clear hT1 hb1
    go_wp2_with (fail)
    refine NW.out.mono ?_
    rintro e w2 ⟨rfl, hT2, hb2⟩
    have hlt1 := H1.out.1.low.2
    have hsz1 := H1.out.2.size
    have s2 : TwoS w w2 w.heap.size none [] w1.heap.size none [] := ⟨bThen H1.out.2 hb2, H1.out.1.below hb2, hT2.mono hsz1, by omega, fun k h => by cases h⟩
    clear hT2 hb2
    generalize hgg : w1.heap.size = g2 at *
    have HG := Lib.hid hgg
    clear hgg
    go_wp2_with (fail)
    go_loopw [5] (fun i wr => ∃ (j : Nat) (P1 : Option Addr) (ps : List (List Cn)), j ≤ 60 ∧ i = .int .i64 j ∧ TwoS w wr w.heap.size P1 ps g2 none [] ∧ AllMay ps) (fun i _ => 60 - (intOf i).toNat)
    case atStart => exact ⟨0, none, [], by omega, rfl, s2, AllMay.nil⟩
    case round =>
      clear s2
      obtain ⟨j, P1, ps, hj, rfl, hs1, hmay⟩ := hrel
      by_cases hlt : j < 60
      · obtain ⟨ad, m, rfl, hm, hok, hbk, hcm⟩ := (HA.out.below hs1.bel).at_ hlt
        have hld := ld_coin_at wr (ad.add (j * 37)) m hok.c.p hcm
        have i1 : (0 : Int) ≤ (j : Int) := by omega
        have i2 : (j : Int) < (60 : Int) := by omega
        have PU := Lib.hid (put_m hs1.t m hok (far_of (HA.out.ok m (List.mem_of_getElem? hm)) (Nat.le_refl _)))
        have X := Lib.hid (And.intro hs1 (hmay.put m.c))
        clear hs1 hmay hm hok hcm
        go_wp2_with (fail)
        refine PU.out.mono ?_
        rintro e w3 ⟨rfl, P3, hT3, hk3, ho3⟩
        have Y := Lib.hid (X.out.1.only1 ho3 hT3 hk3)
        clear hT3 hk3 ho3
        go_wp2_with (fail)
        go_roundw
        case rel => exact ⟨j + 1, P3, _, by omega, by go_num, Y.out, X.out.2⟩
        case measure => simp [intOf]; omega
      · obtain rfl : j = 60 := by omega
        have AL := Lib.hid (all_m hs1.t)
        have hmost := hs1.t.most
        have hrise := hs1.t.rise
        obtain ⟨l, hl⟩ : ∃ l, ps.flatten = l := ⟨_, rfl⟩
        rw [hl] at AL hmost hrise
        have X := Lib.hid (And.intro hs1 (And.intro hmay (And.intro hl hrise)))
        clear hs1 hmay hrise hl
        go_wp2_with (fail)
        refine AL.out.mono ?_
        rintro e w3 ⟨A3, d3, hs3, rfl, hc3, ho3, hb3⟩
        have s3 := X.out.1.below hb3
        have o3 := ho3.mono X.out.1.bel.size
        have hw1 : IntKind.i64.wrap ((l.length : Int) - 1) = (l.length : Int) - 1 := wrap_i64s (by omega)
        have hcap3 := Own.len_cap o3.row
        have Y := Lib.hid (And.intro s3 (And.intro o3 hc3))
        clear s3 o3 hc3 ho3 hb3
        go_wp2_with (fail)
        go_loopw [7] (fun i wr => ∃ (z : Int) (k : Nat) (P2 : Option Addr) (qs : List (List Cn)), k ≤ l.length ∧ i = .int .i64 z ∧ z = (k : Int) - 1 ∧ TwoS w wr w.heap.size P1 ps g2 P2 qs ∧ OwnP wr w.heap.size A3 l.length d3 hs3 ∧ qs.flatten.Perm (l.drop k)) (fun i _ => (intOf i + 1).toNat)
        case atStart => exact ⟨_, l.length, none, [], by omega, rfl, rfl, Y.out.1, Y.out.2.1, by rw [List.drop_length]; exact List.Perm.refl _⟩
        case round =>
          obtain ⟨z, k, P2, qs, hk, rfl, hz, hs2, hown, hpm⟩ := hrel
          cases k with
          | zero =>
            obtain rfl : z = -1 := by omega
            have AL2 := Lib.hid (all_m hs2.u)
            have hqe : qs.flatten = l := rise_perm (by rw [List.drop_zero] at hpm; exact hpm) hs2.u.rise X.out.2.2.2
            rw [hqe] at AL2
            have V := Lib.hid (And.intro hs2 (And.intro hown hqe))
            clear hs2 hown hpm hqe hz
            go_wp2_with (fail)
            refine AL2.out.mono ?_
            rintro e w5 ⟨A5, d5, hs5, rfl, hc5, ho5, hb5⟩
            have s5 := V.out.1.below hb5
            have o5 := V.out.2.1.below hb5
            have SM := rsameL_any A5 l.length d5 hs5 A3 l.length d3 hs3 w5 ho5.arg o5.arg
            rw [show decide (cns hs5 = cns hs3) = true from decide_eq_true (by rw [hc5, Y.out.2.2])] at SM
            have S5 := Lib.hid s5
            have SM := Lib.hid SM
            clear s5 o5 hc5 ho5 hb5
            go_wp2_with (fail)
            refine SM.out.mono ?_
            rintro e w6 ⟨rfl, hb6⟩
            have s6 := S5.out.below hb6
            have SU := sum_m s6.u
            rw [V.out.2.2] at SU
            have S6 := Lib.hid s6
            clear s6 hb6
            go_wp2_with (fail)
            refine SU.mono ?_
            rintro e w7 ⟨rfl, hb7⟩
            have s7 := S6.out.below hb7
            have ST := sum_m s7.t
            rw [X.out.2.2.1] at ST
            have S7 := Lib.hid s7
            have dq : (worthF l == worthF l) = true := beq_self_eq_true _
            clear s7 hb7 SU
            go_wp2_with (fail)
            refine ST.mono ?_
            rintro e w8 ⟨rfl, hb8⟩
            have s8 := S7.out.below hb8
            have B8 := Lib.hid s8.bel
            clear s8 hb8 ST
            go_wp2_with (fail)
            refine (works24_any w8).mono ?_
            rintro e w9 ⟨rfl, hb9⟩
            have B9 := Lib.hid (bThen B8.out hb9)
            clear hb9
            go_wp2_with (fail)
            go_ret
            exact ⟨rfl, B9.out⟩
          | succ k =>
            obtain rfl : z = (k : Int) := by omega
            obtain ⟨ad, m, hA, hm, hok, hbk, hcm⟩ := hown.arg.at_ (k := k) (by omega)
            have hld := ld_coin_at wr (ad.add (k * 37)) m hok.c.p hcm
            have hlk : l[k]? = some m.c := by rw [← Y.out.2.2]; unfold cns; rw [List.getElem?_map, hm]; rfl
            have hmm : mayO m.c.v m.c.l = true := X.out.2.1 m.c (by rw [X.out.2.2.1]; exact List.mem_of_getElem? hlk)
            obtain ⟨b1, b2⟩ := back_next X.out.2.2.2 hmm hlk hpm hmost
            have hfar : 0 < m.c.l.length → blk m.A ≠ some g2 := fun _ e => by
              obtain ⟨np, cp, hr⟩ := hs2.u.row
              exact Own.ne_block (hown.ok m (List.mem_of_getElem? hm)).2.1 hr (by decide) e
            have PU := put_m hs2.u m hok hfar
            rw [b1] at PU
            have i1 : (0 : Int) ≤ (k : Int) := by omega
            have i2 : (k : Int) < (l.length : Int) := by omega
            have d1 : decide ((k : Int) ≥ 0) = true := decide_eq_true (by omega)
            have hw2 : IntKind.i64.wrap ((k : Int) - 1) = (k : Int) - 1 := wrap_i64s (by omega)
            have V := Lib.hid (And.intro hs2 (And.intro hown b2))
            have PU := Lib.hid PU
            have hA3 := hA
            subst hA3
            clear hs2 hown hpm b1 b2 hm hok hcm hlk hmm hfar hz
            go_wp2_with (fail)
            refine PU.out.mono ?_
            rintro e w5 ⟨rfl, P5, hT5, hk5, ho5⟩
            have U := Lib.hid (And.intro (V.out.1.only2 ho5 hT5 hk5) (V.out.2.1.only ho5 V.out.1.u.kinds))
            clear hT5 hk5 ho5
            go_wp2_with (fail)
            go_roundw
            case rel => exact ⟨_, k, P5, _, by omega, rfl, by omega, U.out.1, U.out.2, V.out.2.2⟩
            case measure => simp [intOf] <;> omega
  · have HA := Lib.hid ha
    have d0 : decide ((n : Int) > 60) = false := decide_eq_false (by omega)
    clear ha
    go_enter Try.func6, Try.ntmps6
    go_wp2_with (fail)
    refine (new_m w).mono ?_
    rintro e w1 ⟨rfl, hT1, hb1⟩
    have NW := Lib.hid (new_m w1)
    have H1 := Lib.hid (And.intro hT1 hb1)
    clear hT1 hb1
    go_wp2_with (fail)
    refine NW.out.mono ?_
    rintro e w2 ⟨rfl, hT2, hb2⟩
    have hlt1 := H1.out.1.low.2
    have hsz1 := H1.out.2.size
    have s2 : TwoS w w2 w.heap.size none [] w1.heap.size none [] := ⟨bThen H1.out.2 hb2, H1.out.1.below hb2, hT2.mono hsz1, by omega, fun k h => by cases h⟩
    clear hT2 hb2
    generalize hgg : w1.heap.size = g2 at *
    have HG := Lib.hid hgg
    clear hgg
    go_wp2_with (fail)
    go_loopw [5] (fun i wr => ∃ (j : Nat) (P1 : Option Addr) (ps : List (List Cn)), j ≤ n ∧ i = .int .i64 j ∧ TwoS w wr w.heap.size P1 ps g2 none [] ∧ AllMay ps) (fun i _ => n - (intOf i).toNat)
    case atStart => exact ⟨0, none, [], by omega, rfl, s2, AllMay.nil⟩
    case round =>
      clear s2
      obtain ⟨j, P1, ps, hj, rfl, hs1, hmay⟩ := hrel
      by_cases hlt : j < n
      · obtain ⟨ad, m, rfl, hm, hok, hbk, hcm⟩ := (HA.out.below hs1.bel).at_ hlt
        have hld := ld_coin_at wr (ad.add (j * 37)) m hok.c.p hcm
        have i1 : (0 : Int) ≤ (j : Int) := by omega
        have i2 : (j : Int) < (n : Int) := by omega
        have PU := Lib.hid (put_m hs1.t m hok (far_of (HA.out.ok m (List.mem_of_getElem? hm)) (Nat.le_refl _)))
        have X := Lib.hid (And.intro hs1 (hmay.put m.c))
        clear hs1 hmay hm hok hcm
        go_wp2_with (fail)
        refine PU.out.mono ?_
        rintro e w3 ⟨rfl, P3, hT3, hk3, ho3⟩
        have Y := Lib.hid (X.out.1.only1 ho3 hT3 hk3)
        clear hT3 hk3 ho3
        go_wp2_with (fail)
        go_roundw
        case rel => exact ⟨j + 1, P3, _, by omega, by go_num, Y.out, X.out.2⟩
        case measure => simp [intOf]; omega
      · obtain rfl : j = n := by omega
        have AL := Lib.hid (all_m hs1.t)
        have hmost := hs1.t.most
        have hrise := hs1.t.rise
        obtain ⟨l, hl⟩ : ∃ l, ps.flatten = l := ⟨_, rfl⟩
        rw [hl] at AL hmost hrise
        have X := Lib.hid (And.intro hs1 (And.intro hmay (And.intro hl hrise)))
        clear hs1 hmay hrise hl
        go_wp2_with (fail)
        refine AL.out.mono ?_
        rintro e w3 ⟨A3, d3, hs3, rfl, hc3, ho3, hb3⟩
        have s3 := X.out.1.below hb3
        have o3 := ho3.mono X.out.1.bel.size
        have hw1 : IntKind.i64.wrap ((l.length : Int) - 1) = (l.length : Int) - 1 := wrap_i64s (by omega)
        have hcap3 := Own.len_cap o3.row
        have Y := Lib.hid (And.intro s3 (And.intro o3 hc3))
        clear s3 o3 hc3 ho3 hb3
        go_wp2_with (fail)
        go_loopw [7] (fun i wr => ∃ (z : Int) (k : Nat) (P2 : Option Addr) (qs : List (List Cn)), k ≤ l.length ∧ i = .int .i64 z ∧ z = (k : Int) - 1 ∧ TwoS w wr w.heap.size P1 ps g2 P2 qs ∧ OwnP wr w.heap.size A3 l.length d3 hs3 ∧ qs.flatten.Perm (l.drop k)) (fun i _ => (intOf i + 1).toNat)
        case atStart => exact ⟨_, l.length, none, [], by omega, rfl, rfl, Y.out.1, Y.out.2.1, by rw [List.drop_length]; exact List.Perm.refl _⟩
        case round =>
          obtain ⟨z, k, P2, qs, hk, rfl, hz, hs2, hown, hpm⟩ := hrel
          cases k with
          | zero =>
            obtain rfl : z = -1 := by omega
            have AL2 := Lib.hid (all_m hs2.u)
            have hqe : qs.flatten = l := rise_perm (by rw [List.drop_zero] at hpm; exact hpm) hs2.u.rise X.out.2.2.2
            rw [hqe] at AL2
            have V := Lib.hid (And.intro hs2 (And.intro hown hqe))
            clear hs2 hown hpm hqe hz
            go_wp2_with (fail)
            refine AL2.out.mono ?_
            rintro e w5 ⟨A5, d5, hs5, rfl, hc5, ho5, hb5⟩
            have s5 := V.out.1.below hb5
            have o5 := V.out.2.1.below hb5
            have SM := rsameL_any A5 l.length d5 hs5 A3 l.length d3 hs3 w5 ho5.arg o5.arg
            rw [show decide (cns hs5 = cns hs3) = true from decide_eq_true (by rw [hc5, Y.out.2.2])] at SM
            have S5 := Lib.hid s5
            have SM := Lib.hid SM
            clear s5 o5 hc5 ho5 hb5
            go_wp2_with (fail)
            refine SM.out.mono ?_
            rintro e w6 ⟨rfl, hb6⟩
            have s6 := S5.out.below hb6
            have SU := sum_m s6.u
            rw [V.out.2.2] at SU
            have S6 := Lib.hid s6
            clear s6 hb6
            go_wp2_with (fail)
            refine SU.mono ?_
            rintro e w7 ⟨rfl, hb7⟩
            have s7 := S6.out.below hb7
            have ST := sum_m s7.t
            rw [X.out.2.2.1] at ST
            have S7 := Lib.hid s7
            have dq : (worthF l == worthF l) = true := beq_self_eq_true _
            clear s7 hb7 SU
            go_wp2_with (fail)
            refine ST.mono ?_
            rintro e w8 ⟨rfl, hb8⟩
            have s8 := S7.out.below hb8
            have B8 := Lib.hid s8.bel
            clear s8 hb8 ST
            go_wp2_with (fail)
            refine (works24_any w8).mono ?_
            rintro e w9 ⟨rfl, hb9⟩
            have B9 := Lib.hid (bThen B8.out hb9)
            clear hb9
            go_wp2_with (fail)
            go_ret
            exact ⟨rfl, B9.out⟩
          | succ k =>
            obtain rfl : z = (k : Int) := by omega
            obtain ⟨ad, m, hA, hm, hok, hbk, hcm⟩ := hown.arg.at_ (k := k) (by omega)
            have hld := ld_coin_at wr (ad.add (k * 37)) m hok.c.p hcm
            have hlk : l[k]? = some m.c := by rw [← Y.out.2.2]; unfold cns; rw [List.getElem?_map, hm]; rfl
            have hmm : mayO m.c.v m.c.l = true := X.out.2.1 m.c (by rw [X.out.2.2.1]; exact List.mem_of_getElem? hlk)
            obtain ⟨b1, b2⟩ := back_next X.out.2.2.2 hmm hlk hpm hmost
            have hfar : 0 < m.c.l.length → blk m.A ≠ some g2 := fun _ e => by
              obtain ⟨np, cp, hr⟩ := hs2.u.row
              exact Own.ne_block (hown.ok m (List.mem_of_getElem? hm)).2.1 hr (by decide) e
            have PU := put_m hs2.u m hok hfar
            rw [b1] at PU
            have i1 : (0 : Int) ≤ (k : Int) := by omega
            have i2 : (k : Int) < (l.length : Int) := by omega
            have d1 : decide ((k : Int) ≥ 0) = true := decide_eq_true (by omega)
            have hw2 : IntKind.i64.wrap ((k : Int) - 1) = (k : Int) - 1 := wrap_i64s (by omega)
            have V := Lib.hid (And.intro hs2 (And.intro hown b2))
            have PU := Lib.hid PU
            have hA3 := hA
            subst hA3
            clear hs2 hown hpm b1 b2 hm hok hcm hlk hmm hfar hz
            go_wp2_with (fail)
            refine PU.out.mono ?_
            rintro e w5 ⟨rfl, P5, hT5, hk5, ho5⟩
            have U := Lib.hid (And.intro (V.out.1.only2 ho5 hT5 hk5) (V.out.2.1.only ho5 V.out.1.u.kinds))
            clear hT5 hk5 ho5
            go_wp2_with (fail)
            go_roundw
            case rel => exact ⟨_, k, P5, _, by omega, rfl, by omega, U.out.1, U.out.2, V.out.2.2⟩
            case measure => simp [intOf] <;> omega
end Go.Proofs.Ytofclanljhfkiaa
