/- Joined texts: TcI. -/
import Derived.Test.YtofclanljhfkiaaM22
/- TablePlays: the walk. -/
namespace Go.Proofs.Ytofclanljhfkiaa
open Go.RowKit Go.Proofs En Co
set_option linter.unusedVariables false
set_option linter.unusedSimpArgs false
set_option maxRecDepth 20000

def ld_act (v : Value) : Sem Value := Instr.loadAt 69 v
theorem ld_act_eq (v : Value) : Instr.loadAt 69 v = ld_act v := rfl
attribute [local go_sem ↓] ld_act_eq
theorem far_firm {w wr : World} {m : Cm} (h : m.ok w) (hb : Below w.heap.size w wr) : FirmL wr w.heap.size m := fun h0 k hk => by
  obtain ⟨ad, he, hlt, _⟩ := h.arg.rd.2 h0
  rw [he] at hk
  have e : ad.block = k := by simpa [blk] using hk
  have := hb.size
  exact ⟨by omega, .inl (by omega)⟩
theorem act_ld (w : World) (ad : Addr) (x : Ac) (hx : x.m.c.p.ok) (h : ∀ j v, (ac x)[j]? = some v → w.cell? (ad.add j) = some v) : (ld_act (.pointer (some ad))).run Try.prog w = .ok (.agg (ac x).toArray) w := by
  have := run_loadVar_at (P := Try.prog) w ad 69 (ac x) _ Try.underlying69 rfl (by rw [ac_len hx]; kernel_rfl) h
  simpa [ld_act, Instr.loadAt, Instr.sureAddr, asAddr] using this
theorem ArgA.cells {w : World} {B : Option Addr} {n c : Nat} {xa : List Ac} (h : ArgA w B n c xa) {k : Nat} (hk : k < n) : ∃ ad a, B = some ad ∧ xa[k]? = some a ∧ ∀ j v, (ac a)[j]? = some v → w.cell? ((ad.add (k * 39)).add j) = some v := by
  obtain ⟨ad, e, hb, hc⟩ := h.rd.at_ hk
  have hl := h.len
  have hx : xa[k]? = some xa[k] := List.getElem?_eq_getElem (by omega)
  have hok := (h.ok _ (List.getElem_mem (by omega : k < xa.length))).2
  have hlen : ∀ x ∈ xa, (ac x).length = 39 := fun x hx => ac_len (h.ok x hx).2.c.p
  refine ⟨ad, xa[k], e, hx, fun j v hv => ?_⟩
  have hj := (List.getElem?_eq_some_iff.1 hv).1
  rw [hlen _ (List.getElem_mem _)] at hj
  rw [add_add, hc j hj, flat_get hlen hx hj]
  exact hv

set_option maxRecDepth 20000 in
set_option maxHeartbeats 4000000 in
theorem tablePlays_walk (B : Option Addr) (n c : Nat) (xa : List Ac) (z : Int) (w : World) (ha' : ArgA w B n c xa ∧ c ≤ 1466015503702) (hz : 0 ≤ z ∧ z ≤ 255) :
    Calls Try.prog 10 #[.slice B n c, .int .u8 z] w fun e w' => e = .returned (.bool true) ∧ Below w.heap.size w w' := by
  obtain ⟨ha, hc⟩ := ha'
  have hcap := ha.cap
  have HA := Lib.hid ha
  clear ha
  go_enter Try.func10, Try.ntmps10
  go_wp2_with (fail)
  refine (new_m w).mono ?_
  rintro e w1 ⟨rfl, hT1, hb1⟩
  have RN := Lib.hid (rnew_any w1)
  have H1 := Lib.hid (And.intro hT1 hb1)
  clear hT1 hb1
  go_wp2_with (fail)
  refine RN.out.mono ?_
  rintro e w2 ⟨rfl, hw2⟩
  have hsz1 := H1.out.2.size
  have hb2 : Below w1.heap.size w1 w2 := by rw [hw2]; exact (Below.refl _ _).alloc (Nat.le_refl _) _
  have hr2 : RT w2 w.heap.size w1.heap.size none [] := by
    rw [hw2]
    exact ⟨hsz1, 0, 0, [], heap_alloc_new w1 _, Rd.nil _ _ _, Nat.le_refl _, Nat.zero_le _, (fun _ h => by cases h), rfl, fun k hk => (by cases hk)⟩
  have p2 : PairS w2 w.heap.size w.heap.size none w1.heap.size none [] := ⟨H1.out.1.below hb2, hr2, fun k h => by cases h⟩
  have bw2 := bThen H1.out.2 hb2
  clear hr2 hb2 hw2 H1 hsz1 RN
  generalize hgg : w1.heap.size = h1 at *
  clear hgg
  have CP := Lib.hid (copy_m p2.t)
  have S2 := Lib.hid (And.intro bw2 p2)
  clear bw2 p2
  go_wp2_with (fail)
  refine CP.out.mono ?_
  rintro e w3 ⟨g2, P2, rfl, hT3, hb3⟩
  have RC3 := Lib.hid (rcopy_m (S2.out.2.r.below hb3) (by decide))
  have S3 := Lib.hid (And.intro hT3 hb3)
  clear hT3 hb3
  go_wp2_with (fail)
  refine RC3.out.mono ?_
  rintro e w4 ⟨h2, Q2, rfl, hR4, hb4, hh2, hQ2⟩
  have s4 := Plays.copy S2.out.1 S2.out.2 S3.out.2 S3.out.1 hb4 hR4 hh2 hQ2
  clear hR4 hb4 hh2 hQ2
  go_wp2_with (fail)
  go_loopw [7, 8, 9, 10, 11] (fun u s i _ _ wr => ∃ (j g2 h2 : Nat) (P1 Q1 : Option Addr) (ps : List (List Cn)) (P2 Q2 : Option Addr) (qs : List (List Cn)), j ≤ n ∧ j ≤ 80 ∧ i = .int .i64 j ∧ u = ptr g2 ∧ s = ptr h2 ∧ Plays w wr w.heap.size P1 h1 Q1 ps g2 P2 h2 Q2 qs) (fun _ _ i _ _ _ => n - (intOf i).toNat)
  case atStart => exact ⟨0, g2, h2, none, none, [], P2, Q2, [], by omega, by omega, rfl, rfl, rfl, s4⟩
  case round =>
    clear s4
    obtain ⟨j, g2, h2, P1, Q1, ps, P2, Q2, qs, hj, hj2, rfl, rfl, rfl, hs⟩ := hrel
    by_cases hlt : j < n ∧ j < 80
    · have d1 : decide ((j : Int) < (n : Int)) = true := decide_eq_true (by omega)
      have d2 : decide ((j : Int) < 80) = true := decide_eq_true (by omega)
      by_cases hcp : (j : Int) = z % 60
      · have dz : ((j : Int) == z % 60) = true := by rw [hcp]; exact beq_self_eq_true _
        clear hcp
        have CP := Lib.hid (copy_m hs.p.t)
        have S5 := Lib.hid hs
        clear hs
        go_wp2_with (fail)
        refine CP.out.mono ?_
        rintro e w5 ⟨g2, P2, rfl, hT5, hb5⟩
        have RC5 := Lib.hid (rcopy_m (S5.out.p.r.below hb5) (by have := S5.out.p.t.many; omega))
        have S6 := Lib.hid (And.intro hT5 hb5)
        clear hT5 hb5
        go_wp2_with (fail)
        refine RC5.out.mono ?_
        rintro e w6 ⟨h2, Q2, rfl, hR6, hb6, hh2, hQ2⟩
        have s6 := Plays.copy S5.out.bel S5.out.p S6.out.2 S6.out.1 hb6 hR6 hh2 hQ2
        clear hR6 hb6 hh2 hQ2
        obtain ⟨ad, a, rfl, hm, hok, hbk, hc0, hc1, hc2⟩ := (HA.out.below s6.bel).at_ hlt.1
        obtain ⟨ad2, a', hA2, hm2, hca⟩ := (HA.out.below s6.bel).cells hlt.1
        obtain rfl : ad = ad2 := Option.some.inj hA2
        obtain rfl : a = a' := Option.some.inj (hm.symm.trans hm2)
        have hld := act_ld w6 (ad.add (j * 39)) a hok.c.p hca
        have e38 : ∀ x : Addr, x.add 38 = ⟨x.block, x.off + 38, none⟩ := fun x => by unfold Addr.add; simp
        rw [e38] at hc2
        have i1 : (0 : Int) ≤ (j : Int) := by omega
        have i2 : (j : Int) < (n : Int) := by omega
        obtain ⟨ao, hao⟩ : ∃ ao, a.o = ao := ⟨_, rfl⟩
        rw [hao] at hc2
        clear hA2 hm2 hca hc0 hc1 hao e38
        cases ao with
        | true =>
          have AC := Lib.hid (act_m s6.o a (HA.out.ok a (List.mem_of_getElem? hm)).1 hok (far_of (HA.out.ok a (List.mem_of_getElem? hm)).2 s6.o.t.low.1) (far_firm (HA.out.ok a (List.mem_of_getElem? hm)).2 s6.bel))
          have X := Lib.hid s6
          clear s6 hm hok
          go_wp2_with (fail)
          refine AC.out.mono ?_
          rintro e w8 ⟨rfl, P8, Q8, ps8, mv⟩
          have Y := Lib.hid (X.out.move2 mv)
          clear mv
          go_wp2_with (fail)
          go_roundw
          case rel => exact ⟨j + 1, _, _, _, _, _, _, _, _, by omega, by omega, by go_num, rfl, rfl, Y.out⟩
          case measure => simp [intOf]; omega
        | false =>
          have AC := Lib.hid (act_m s6.p a (HA.out.ok a (List.mem_of_getElem? hm)).1 hok (far_of (HA.out.ok a (List.mem_of_getElem? hm)).2 s6.p.t.low.1) (far_firm (HA.out.ok a (List.mem_of_getElem? hm)).2 s6.bel))
          have X := Lib.hid s6
          clear s6 hm hok
          go_wp2_with (fail)
          refine AC.out.mono ?_
          rintro e w8 ⟨rfl, P8, Q8, ps8, mv⟩
          have Y := Lib.hid (X.out.move1 mv)
          clear mv
          go_wp2_with (fail)
          go_roundw
          case rel => exact ⟨j + 1, _, _, _, _, _, _, _, _, by omega, by omega, by go_num, rfl, rfl, Y.out⟩
          case measure => simp [intOf]; omega
      · have dz : ((j : Int) == z % 60) = false := by simpa using hcp
        obtain ⟨ad, a, rfl, hm, hok, hbk, hc0, hc1, hc2⟩ := (HA.out.below hs.bel).at_ hlt.1
        obtain ⟨ad2, a', hA2, hm2, hca⟩ := (HA.out.below hs.bel).cells hlt.1
        obtain rfl : ad = ad2 := Option.some.inj hA2
        obtain rfl : a = a' := Option.some.inj (hm.symm.trans hm2)
        have hld := act_ld wr (ad.add (j * 39)) a hok.c.p hca
        have e38 : ∀ x : Addr, x.add 38 = ⟨x.block, x.off + 38, none⟩ := fun x => by unfold Addr.add; simp
        rw [e38] at hc2
        have i1 : (0 : Int) ≤ (j : Int) := by omega
        have i2 : (j : Int) < (n : Int) := by omega
        obtain ⟨ao, hao⟩ : ∃ ao, a.o = ao := ⟨_, rfl⟩
        rw [hao] at hc2
        clear hA2 hm2 hca hc0 hc1 hao e38
        cases ao with
        | true =>
          have AC := Lib.hid (act_m hs.o a (HA.out.ok a (List.mem_of_getElem? hm)).1 hok (far_of (HA.out.ok a (List.mem_of_getElem? hm)).2 hs.o.t.low.1) (far_firm (HA.out.ok a (List.mem_of_getElem? hm)).2 hs.bel))
          have X := Lib.hid hs
          clear hs hm hok
          go_wp2_with (fail)
          refine AC.out.mono ?_
          rintro e w8 ⟨rfl, P8, Q8, ps8, mv⟩
          have Y := Lib.hid (X.out.move2 mv)
          clear mv
          go_wp2_with (fail)
          go_roundw
          case rel => exact ⟨j + 1, _, _, _, _, _, _, _, _, by omega, by omega, by go_num, rfl, rfl, Y.out⟩
          case measure => simp [intOf]; omega
        | false =>
          have AC := Lib.hid (act_m hs.p a (HA.out.ok a (List.mem_of_getElem? hm)).1 hok (far_of (HA.out.ok a (List.mem_of_getElem? hm)).2 hs.p.t.low.1) (far_firm (HA.out.ok a (List.mem_of_getElem? hm)).2 hs.bel))
          have X := Lib.hid hs
          clear hs hm hok
          go_wp2_with (fail)
          refine AC.out.mono ?_
          rintro e w8 ⟨rfl, P8, Q8, ps8, mv⟩
          have Y := Lib.hid (X.out.move1 mv)
          clear mv
          go_wp2_with (fail)
          go_roundw
          case rel => exact ⟨j + 1, _, _, _, _, _, _, _, _, by omega, by omega, by go_num, rfl, rfl, Y.out⟩
          case measure => simp [intOf]; omega
    · by_cases hjn : j < n
      · have d1 : decide ((j : Int) < (n : Int)) = true := decide_eq_true (by omega)
        have d2 : decide ((j : Int) < 80) = false := decide_eq_false (by omega)
        have PG := page_m hs.p.t (-1) (by decide)
        have e1 : pageM ps (-1) = ([], 6) := by unfold pageM; rw [if_neg (by omega)]
        rw [e1] at PG
        have PG := Lib.hid PG
        have X := Lib.hid hs
        clear hs e1
        go_wp2_with (fail)
        refine PG.out.mono ?_
        rintro e w5 ⟨A5, d5, hs5, rfl, hc5, ho5, hb5⟩
        have s5 := X.out.below hb5
        have A1 := Lib.hid (alike24_any s5.p.t s5.p.r)
        have S5 := Lib.hid s5
        clear s5 hc5 ho5 hb5
        go_wp2_with (fail)
        refine A1.out.mono ?_
        rintro e w6 ⟨rfl, hb6⟩
        have s6 := S5.out.below hb6
        have A2 := Lib.hid (alike24_any s6.o.t s6.o.r)
        have S6 := Lib.hid s6
        clear s6 hb6
        go_wp2_with (fail)
        refine A2.out.mono ?_
        rintro e w7 ⟨rfl, hb7⟩
        have B7 := Lib.hid (S6.out.below hb7).bel
        have W := Lib.hid (works24_any w7)
        clear hb7
        go_wp2_with (fail)
        refine W.out.mono ?_
        rintro e w8 ⟨rfl, hb8⟩
        have B8 := Lib.hid (bThen B7.out hb8)
        clear hb8
        go_wp2_with (fail)
        go_ret
        exact ⟨rfl, B8.out⟩
      · have d1 : decide ((j : Int) < (n : Int)) = false := decide_eq_false (by omega)
        have PG := page_m hs.p.t (-1) (by decide)
        have e1 : pageM ps (-1) = ([], 6) := by unfold pageM; rw [if_neg (by omega)]
        rw [e1] at PG
        have PG := Lib.hid PG
        have X := Lib.hid hs
        clear hs e1
        go_wp2_with (fail)
        refine PG.out.mono ?_
        rintro e w5 ⟨A5, d5, hs5, rfl, hc5, ho5, hb5⟩
        have s5 := X.out.below hb5
        have A1 := Lib.hid (alike24_any s5.p.t s5.p.r)
        have S5 := Lib.hid s5
        clear s5 hc5 ho5 hb5
        go_wp2_with (fail)
        refine A1.out.mono ?_
        rintro e w6 ⟨rfl, hb6⟩
        have s6 := S5.out.below hb6
        have A2 := Lib.hid (alike24_any s6.o.t s6.o.r)
        have S6 := Lib.hid s6
        clear s6 hb6
        go_wp2_with (fail)
        refine A2.out.mono ?_
        rintro e w7 ⟨rfl, hb7⟩
        have B7 := Lib.hid (S6.out.below hb7).bel
        have W := Lib.hid (works24_any w7)
        clear hb7
        go_wp2_with (fail)
        refine W.out.mono ?_
        rintro e w8 ⟨rfl, hb8⟩
        have B8 := Lib.hid (bThen B7.out hb8)
        clear hb8
        go_wp2_with (fail)
        go_ret
        exact ⟨rfl, B8.out⟩
end Go.Proofs.Ytofclanljhfkiaa
