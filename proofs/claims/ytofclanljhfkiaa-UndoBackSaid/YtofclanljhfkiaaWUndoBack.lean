/- Joined texts: UnU. -/
import Derived.Test.YtofclanljhfkiaaM29
/- UndoBack: the walk. -/
namespace Go.Proofs.Ytofclanljhfkiaa
open Go.RowKit Go.Proofs En Co
set_option linter.unusedVariables false
set_option linter.unusedSimpArgs false
set_option maxRecDepth 20000
attribute [local go_sem] nil_bytes nil_coins

theorem doM_err {ps qs : List (List Cn)} {xs pts : List Pt} {ys cs : List Cn} {q : Int} (h : doM ps xs ys = (qs, cs, pts, q)) (hq : q ≠ 0) : qs = ps ∧ cs = [] ∧ pts = [] := by
  unfold doM at h
  split at h
  · split at h
    · injection h with _ h
      injection h with _ h
      injection h with _ h
      exact absurd h.symm hq
    · injection h with h1 h
      injection h with h2 h
      injection h with h3 h
      exact ⟨h1.symm, h2.symm, h3.symm⟩
  · injection h with h1 h
    injection h with h2 h
    injection h with h3 h
    exact ⟨h1.symm, h2.symm, h3.symm⟩
theorem takes_mem : ∀ (xs : List Pt) (ps m : List (List Cn)) (cs : List Cn), Rise (ps.flatten.map Cn.p) → takesM ps xs = (m, cs, 0) → ∀ c ∈ cs, c ∈ ps.flatten := fun xs ps m cs hr h c hc => (takes_perm xs ps m cs hr h).1.mem_iff.1 (List.mem_append_left _ hc)
theorem doM_mem {ps qs : List (List Cn)} {xs pts : List Pt} {ys cs : List Cn} (hr : Rise (ps.flatten.map Cn.p)) (h : doM ps xs ys = (qs, cs, pts, 0)) : ∀ c ∈ cs, c ∈ ps.flatten := by
  unfold doM at h
  split at h
  · rename_i h1
    obtain ⟨m, ds, q, e1⟩ : ∃ m ds q, takesM ps xs = (m, ds, q) := ⟨_, _, _, rfl⟩
    rw [e1] at h h1
    simp only at h h1
    subst h1
    split at h
    · injection h with _ h
      injection h with h2 h
      subst h2
      exact takes_mem xs ps m ds hr e1
    · injection h with _ h
      injection h with h2 _
      subst h2
      intro c hc
      cases hc
  · injection h with _ h
    injection h with h2 _
    subst h2
    intro c hc
    cases hc
theorem putUF_bytes {cs : List Cn} {xs : List Pt} (hc : ∀ c ∈ cs, c.ok ∧ mayO c.v c.l = true) (hp : ∀ p ∈ xs, p.ok) (h : ¬ (256 < cs.length ∨ 256 < xs.length)) : IsB (countF cs.length ++ coinsF cs ++ countF xs.length ++ ptsF xs) := by
  refine IsB.append (IsB.append (IsB.append (countF_isB (by omega)) (coinsF_bytes hc)) (countF_isB (by omega))) ?_
  intro x hx
  unfold ptsF at hx
  obtain ⟨p, hp1, hp2⟩ := List.mem_flatMap.1 hx
  exact (show IsB (putPF p) from IsB.append (IsB.append (hp p hp1).isB (lowF_isB _ _)) (lowF_isB _ _)) x hp2

structure UB (w wr : World) (g : Nat) (P : Option Addr) (ps : List (List Cn)) (b : Nat) (A : Option Addr) (n d : Nat) (hs : List Cm) (A2 : Option Addr) (n2 d2 : Nat) (ys : List Pt) (A0 : Option Addr) (n0 d0 : Nat) (hs0 : List Cm) (D : Option Addr) (nb db : Nat) (bs : List Int) : Prop where
  us : US w wr g P ps b A n d hs A2 n2 d2 ys
  al : OwnP wr w.heap.size A0 n0 d0 hs0
  by_ : OwnB wr w.heap.size D nb db bs
section
variable {w wr w2 : World} {g b n d n2 d2 n0 d0 nb db : Nat} {P P' A A2 A0 D : Option Addr} {ps qs : List (List Cn)} {hs hs0 : List Cm} {ys : List Pt} {bs : List Int}
theorem UB.below (h : UB w wr g P ps b A n d hs A2 n2 d2 ys A0 n0 d0 hs0 D nb db bs) (hb : Below wr.heap.size wr w2) : UB w w2 g P ps b A n d hs A2 n2 d2 ys A0 n0 d0 hs0 D nb db bs :=
  ⟨h.us.below hb, h.al.below hb, OwnN.below h.by_ hb⟩
theorem UB.only (h : UB w wr g P ps b A n d hs A2 n2 d2 ys A0 n0 d0 hs0 D nb db bs) (ho : Only wr w2 g P) (ht : Tb w2 w.heap.size g P' qs) : UB w w2 g P' qs b A n d hs A2 n2 d2 ys A0 n0 d0 hs0 D nb db bs :=
  ⟨h.us.only ho ht, h.al.only ho h.us.tb.kinds, Own.only h.by_ ho h.us.tb.kinds (by decide) (by decide)⟩
theorem UB.swap (h : UB w wr g P ps b A n d hs A2 n2 d2 ys A0 n0 d0 hs0 D nb db bs) (hb : w.heap.size ≤ b) {A' B' : Option Addr} {m1 e1 m2 e2 : Nat} {ks : List Cm} {zs : List Pt} (h1 : OwnP wr w.heap.size A' m1 e1 ks) (h2 : OwnQ wr w.heap.size B' m2 e2 zs) :
    UB w ((wr.setCell ⟨b, 0, none⟩ (.slice A' m1 e1)).setCell ⟨b, 1, none⟩ (.slice B' m2 e2)) g P ps b A' m1 e1 ks B' m2 e2 zs A0 n0 d0 hs0 D nb db bs := by
  obtain ⟨k1, k2, k3⟩ := box_wrote h.us.bel hb h.us.box (.slice A' m1 e1) (.slice B' m2 e2)
  exact ⟨⟨k2, h.us.tb.spare k3 (by decide) (by decide) (by decide) (by decide), k1, h1.spare k3 (by decide) (by decide), h2.spare k3 (by decide)⟩, h.al.spare k3 (by decide) (by decide), Own.spare h.by_ k3 (by decide)⟩
end


set_option maxRecDepth 20000 in
set_option maxHeartbeats 8000000 in
theorem undoBack_walk (B : Option Addr) (n c : Nat) (hs : List Cm) (B2 : Option Addr) (n2 c2 : Nat) (xs : List Pt) (B3 : Option Addr) (n3 c3 : Nat) (ks : List Cm) (w : World) (hl : FirmP w w.heap.size ⟨B, n, c, hs⟩ ∧ c ≤ 1759218604392) (hx : FirmQ w w.heap.size B2 n2 c2 xs ∧ c2 ≤ 3518437208781) (hm : FirmP w w.heap.size ⟨B3, n3, c3, ks⟩ ∧ c3 ≤ 1759218604392) :
    Calls Try.prog 4 #[.slice B n c, .slice B2 n2 c2, .slice B3 n3 c3] w fun e w' => e = .returned (.bool true) ∧ Below w.heap.size w w' := by
  have BO := Lib.hid (both_any hl.1.arg hl.2)
  have hn2c : n2 ≤ c2 := hx.1.cap
  have hc2 := hx.2
  have hn3c : n3 ≤ c3 := hm.1.arg.cap
  have hc3 := hm.2
  have hxl := Lib.hid hx.1.len
  have hkl := Lib.hid (show ks.length = n3 from hm.1.arg.len)
  have M := Lib.hid (And.intro hx.1 hm.1)
  clear hl hm hx
  go_enter Try.func4, Try.ntmps4
  go_wp2_with (fail)
  refine BO.out.mono ?_
  rintro e w1 ⟨g, P, h, Q, ps, rfl, pr, ham, hb1⟩
  obtain ⟨L0, hL0⟩ : ∃ L0, ps.flatten.length = L0 := ⟨_, rfl⟩
  have AL := all_m pr.t
  rw [hL0] at AL
  have AL := Lib.hid AL
  have hL0 := Lib.hid hL0
  have S1 := Lib.hid (And.intro pr.t (And.intro ham hb1))
  clear pr ham hb1
  go_wp2_with (fail)
  refine AL.out.mono ?_
  rintro e w2 ⟨A0, d0, hs0, rfl, hal, hoal, hb2⟩
  have hal := Lib.hid hal
  have BY := Lib.hid (bytes_m (S1.out.1.below hb2))
  have S2 := Lib.hid (And.intro (S1.out.1.below hb2) (And.intro (hoal.mono S1.out.2.2.size) (bThen S1.out.2.2 hb2)))
  clear hoal hb2
  go_wp2_with (fail)
  refine BY.out.mono ?_
  rintro e w3 ⟨D, d3, rfl, hby, hb3⟩
  have DO := do_m (S2.out.1.below hb3) (M.out.1.below (bThen S2.out.2.2 hb3)) (M.out.2.below (bThen S2.out.2.2 hb3))
  obtain ⟨qs, cs, pts, q, hr⟩ : ∃ qs cs pts q, doM ps xs (cns ks) = (qs, cs, pts, q) := ⟨_, _, _, _, rfl⟩
  rw [hr] at DO
  have DO := Lib.hid DO
  have S3 := Lib.hid (And.intro (S2.out.1.below hb3) (And.intro (S2.out.2.1.below hb3) (And.intro (OwnN.mono hby S2.out.2.2.size) (bThen S2.out.2.2 hb3))))
  have R := Lib.hid hr
  have hbl : (tableF ps).length ≤ 9223372036854775807 := by
    have := hby.len_cap
    unfold maxLen at this
    omega
  clear hby hb3 hr
  go_wp2_with (fail)
  refine DO.out.mono ?_
  rintro e w4 ⟨A, m1, d1, us, A2, m2, d2, rfl, hoP, hcs, hoQ, P', hT, hk, ho⟩
  simp only at hcs hoQ hT
  have l5 : Below w4.heap.size w4 (w4.alloc (.cells #[.slice A m1 d1, .slice A2 m2 d2] 25)) := (Below.refl _ _).alloc (Nat.le_refl _) _
  have s5 : UB w (w4.alloc (.cells #[.slice A m1 d1, .slice A2 m2 d2] 25)) g P' qs w4.heap.size A m1 d1 us A2 m2 d2 pts A0 L0 d0 hs0 D (tableF ps).length d3 (tableF ps) :=
    ⟨⟨bThen (S3.out.2.2.2.trans (S3.out.1.frame ho)) l5, hT.below l5, heap_alloc_new w4 _, hoP.below l5, hoQ.below l5⟩, (S3.out.2.1.only ho S3.out.1.kinds).below l5, OwnN.below (Own.only S3.out.2.2.1 ho S3.out.1.kinds (by decide) (by decide)) l5⟩
  have hm1 : m1 = cs.length := by rw [← hcs, cns_length]; exact hoP.len.symm
  have hm2 : m2 = pts.length := hoQ.len.symm
  have hwb : w.heap.size ≤ w4.heap.size := Nat.le_trans S3.out.2.2.2.size ho.size
  have hrise := S1.out.1.rise
  have hqrise := hT.rise
  have hmost := S1.out.1.most
  have hok0 := S1.out.1.ok
  clear l5 hoP hoQ hT hk ho
  by_cases hq0 : q = 0
  · have dq : (q == 0) = true := by rw [hq0]; rfl
    have dq2 : (q != 0) = false := by rw [hq0]; rfl
    have hrr := R.out
    rw [hq0] at hrr
    obtain ⟨u1, u2, rs, hbk, hperm⟩ := done_undone hrise hmost S1.out.2.1 hqrise hrr
    have hmem := doM_mem hrise hrr
    have hcok : ∀ c ∈ cs, c.ok ∧ mayO c.v c.l = true := fun c hc => ⟨hok0 c (hmem c hc), S1.out.2.1 c (hmem c hc)⟩
    have hpok := s5.us.md.ok
    rw [u2, hxl.out] at hm1
    subst hm1
    have u3 : pts.length = n3 := by rw [u1, List.length_map, cns_length]; exact hkl.out
    rw [u3] at hm2
    subst hm2
    have dn1 : ((m1 : Int) == (m1 : Int)) = true := beq_self_eq_true _
    have dn2 : ((m2 : Int) == (m2 : Int)) = true := beq_self_eq_true _
    have PU := putU_any (w := w4.alloc (.cells #[.slice A m1 d1, .slice A2 m2 d2] 25)) s5.us.sp.arg (s5.us.md.firm w.heap.size)
    rw [hcs] at PU
    have x0 := (row_cells s5.us.box 0).1
    have x1 := (row_cells s5.us.box 1).1
    have L := Lib.hid (And.intro u2 u3)
    by_cases hbig : 256 < cs.length ∨ 256 < pts.length
    · rw [putUF_many hbig] at PU
      have PU := Lib.hid PU
      have S5 := Lib.hid (And.intro s5 (And.intro hcs (And.intro hbk (And.intro hperm (And.intro hrise hal.out)))))
      rw [u2, u3, hxl.out] at hbig
      clear s5 hrr u1 u2 u3 hmem hcok hpok hcs hbk hperm hrise hqrise hok0 hq0
      go_wp2_with (fail)
      refine PU.out.mono ?_
      rintro e w6 ⟨D6, d6, rfl, ho6, hb6⟩
      have s := S5.out.1.below hb6
      obtain ⟨_, hus, hbk, hperm, hrise, hal'⟩ := S5.out
      clear hal'
      clear ho6 hb6 x0 x1
      by_cases hbb : 256 < m1
      · have dg1 : decide ((m1 : Int) > 256) = true := decide_eq_true (by omega)
        clear hbig
        have BK := back_m s.us.tb (s.us.firmP _) (s.us.md.firm _)
        rw [hus, hbk] at BK
        have BK := Lib.hid BK
        have x0 := (row_cells s.us.box 0).1
        have x1 := (row_cells s.us.box 1).1
        have S := Lib.hid s
        clear s hus
        go_wp2_with (fail)
        refine BK.out.mono ?_
        rintro e w12 ⟨rfl, P12, hT12, hk12, ho12⟩
        have s12 := S.out.only ho12 hT12
        obtain ⟨L2, hL2⟩ : ∃ L2, rs.flatten.length = L2 := ⟨_, rfl⟩
        have AL := all_m s12.us.tb
        rw [hL2] at AL
        have AL := Lib.hid AL
        have hfe : rs.flatten = ps.flatten := rise_perm hperm hT12.rise hrise
        have S12 := Lib.hid (And.intro s12 hfe)
        clear s12 hT12 hk12 ho12 x0 x1 hfe hL2
        go_wp2_with (fail)
        refine AL.out.mono ?_
        rintro e w13 ⟨A13, d13, hs13, rfl, hc13, ho13, hb13⟩
        have s13 := S12.out.1.below hb13
        have SM := rsameL_any A13 _ d13 hs13 A0 _ d0 hs0 w13 ho13.arg s13.al.arg
        rw [show decide (cns hs13 = cns hs0) = true from decide_eq_true (by rw [hc13, S12.out.2, hal.out])] at SM
        have SM := Lib.hid SM
        have S13 := Lib.hid s13.us.bel
        clear s13 hc13 ho13 hb13
        go_wp2_with (fail)
        refine SM.out.mono ?_
        rintro e w14 ⟨rfl, hb14⟩
        have B14 := Lib.hid (bThen S13.out hb14)
        clear hb14
        go_wp2_with (fail)
        refine (works25_any _).mono ?_
        rintro e w15 ⟨rfl, hb15⟩
        have B15 := Lib.hid (bThen B14.out hb15)
        clear hb15
        go_wp2_with (fail)
        go_ret
        exact ⟨rfl, B15.out⟩
      · have dg1 : decide ((m1 : Int) > 256) = false := decide_eq_false (by omega)
        have dg2 : decide ((m2 : Int) > 256) = true := decide_eq_true (by omega)
        clear hbig
        have BK := back_m s.us.tb (s.us.firmP _) (s.us.md.firm _)
        rw [hus, hbk] at BK
        have BK := Lib.hid BK
        have x0 := (row_cells s.us.box 0).1
        have x1 := (row_cells s.us.box 1).1
        have S := Lib.hid s
        clear s hus
        go_wp2_with (fail)
        refine BK.out.mono ?_
        rintro e w12 ⟨rfl, P12, hT12, hk12, ho12⟩
        have s12 := S.out.only ho12 hT12
        obtain ⟨L2, hL2⟩ : ∃ L2, rs.flatten.length = L2 := ⟨_, rfl⟩
        have AL := all_m s12.us.tb
        rw [hL2] at AL
        have AL := Lib.hid AL
        have hfe : rs.flatten = ps.flatten := rise_perm hperm hT12.rise hrise
        have S12 := Lib.hid (And.intro s12 hfe)
        clear s12 hT12 hk12 ho12 x0 x1 hfe hL2
        go_wp2_with (fail)
        refine AL.out.mono ?_
        rintro e w13 ⟨A13, d13, hs13, rfl, hc13, ho13, hb13⟩
        have s13 := S12.out.1.below hb13
        have SM := rsameL_any A13 _ d13 hs13 A0 _ d0 hs0 w13 ho13.arg s13.al.arg
        rw [show decide (cns hs13 = cns hs0) = true from decide_eq_true (by rw [hc13, S12.out.2, hal.out])] at SM
        have SM := Lib.hid SM
        have S13 := Lib.hid s13.us.bel
        clear s13 hc13 ho13 hb13
        go_wp2_with (fail)
        refine SM.out.mono ?_
        rintro e w14 ⟨rfl, hb14⟩
        have B14 := Lib.hid (bThen S13.out hb14)
        clear hb14
        go_wp2_with (fail)
        refine (works25_any _).mono ?_
        rintro e w15 ⟨rfl, hb15⟩
        have B15 := Lib.hid (bThen B14.out hb15)
        clear hb15
        go_wp2_with (fail)
        go_ret
        exact ⟨rfl, B15.out⟩
    · have hmy : allMay cs = true := List.all_eq_true.2 fun c hc => (hcok c hc).2
      rw [putUF_all hbig hmy] at PU
      have hrd := readUF_put hcok hpok hbig
      have hib := putUF_bytes hcok hpok hbig
      obtain ⟨bb, hbb⟩ : ∃ bb, countF cs.length ++ coinsF cs ++ countF pts.length ++ ptsF pts = bb := ⟨_, rfl⟩
      rw [hbb] at PU hrd hib
      have hbbl : bb.length ≤ 140737488355328 := by
        rw [← hbb]
        simp only [List.length_append]
        have h1 := countF_len9 (cs.length : Int)
        have h2 := countF_len9 (pts.length : Int)
        have h3 := coinsF_len (l := cs) fun c hc => (hcok c hc).1
        have h4 := ptsF_len hpok
        omega
      have PU := Lib.hid PU
      have S5 := Lib.hid (And.intro s5 (And.intro hcs (And.intro hbk (And.intro hperm (And.intro hrise (And.intro hal.out (And.intro hrd (And.intro hib hbbl))))))))
      clear s5 hrr u1 u2 u3 hmem hcok hpok hcs hbk hperm hrise hqrise hok0 hq0 hbig hmy hrd hib hbb
      go_wp2_with (fail)
      refine PU.out.mono ?_
      rintro e w6 ⟨D6, d6, rfl, ho6, hb6⟩
      have hlc := OwnN.lt ho6
      have RD := readU_any (w := w6) (b := bb) ⟨OwnN.rd ho6, S5.out.2.2.2.2.2.2.2.1, (Own.len_cap ho6).1, (Own.len_cap ho6).2, S5.out.2.2.2.2.2.2.2.2⟩
      rw [S5.out.2.2.2.2.2.2.1] at RD
      have RD := Lib.hid RD
      have S6 := Lib.hid (S5.out.1.below hb6)
      clear ho6 hb6 x0 x1 hlc hbbl
      go_wp2_with (fail)
      refine RD.out.mono ?_
      rintro e w7 ⟨A7, m7, d7, us7, A8, m8, d8, rfl, ho7, hc7, ho8, hb7⟩
      simp only at hc7 ho8
      have l8 : Below w7.heap.size w7 (w7.alloc (.cells #[.slice A7 m7 d7, .slice A8 m8 d8] 25)) := (Below.refl _ _).alloc (Nat.le_refl _) _
      have s8 := S6.out.below (bThen hb7 l8)
      have hsz := S6.out.us.bel.size
      have p8 := (ho7.below l8).mono hsz
      have q8 := (ho8.below l8).mono hsz
      have x0 := (row_cells s8.us.box 0).1
      have x1 := (row_cells s8.us.box 1).1
      have f0 := (row_cells s8.us.box 0).2
      have f1 := (row_cells s8.us.box 1).2
      have SU := Lib.hid (sameU_any (r := true) s8.us.sp.arg (s8.us.md.firm w.heap.size) p8.arg (q8.firm w.heap.size) (decide_eq_true ⟨by rw [S5.out.2.1, hc7], rfl⟩))
      have b8 := heap_alloc_new w7 (.cells #[.slice A7 m7 d7, .slice A8 m8 d8] 25)
      have S8 := Lib.hid (And.intro s8 (And.intro p8 (And.intro q8 (And.intro hc7 b8))))
      clear s8 l8 p8 q8 hc7 b8 ho7 ho8 hb7
      go_wp2_with (fail)
      refine SU.out.mono ?_
      rintro e w9 ⟨rfl, hb9⟩
      have s9 := S8.out.1.below hb9
      have p9 := S8.out.2.1.below hb9
      have q9 := S8.out.2.2.1.below hb9
      have b9 := kept S8.out.2.2.2.2 hb9
      have s := s9.swap hwb p9 q9
      have y0 := (row_cells b9 0).1
      have y1 := (row_cells b9 1).1
      have x0 := (row_cells s9.us.box 0).1
      have x1 := (row_cells s9.us.box 1).1
      have f0 := (row_cells s9.us.box 0).2
      have f1 := (row_cells s9.us.box 1).2
      have hus := S8.out.2.2.2.1
      obtain ⟨_, _, hbk, hperm, hrise, hal', _⟩ := S5.out
      clear hal'
      clear s9 p9 q9 b9 hb9
      have BK := back_m s.us.tb (s.us.firmP _) (s.us.md.firm _)
      rw [hus, hbk] at BK
      have BK := Lib.hid BK
      have x0 := (row_cells s.us.box 0).1
      have x1 := (row_cells s.us.box 1).1
      have S := Lib.hid s
      clear s hus
      go_wp2_with (fail)
      refine BK.out.mono ?_
      rintro e w12 ⟨rfl, P12, hT12, hk12, ho12⟩
      have s12 := S.out.only ho12 hT12
      obtain ⟨L2, hL2⟩ : ∃ L2, rs.flatten.length = L2 := ⟨_, rfl⟩
      have AL := all_m s12.us.tb
      rw [hL2] at AL
      have AL := Lib.hid AL
      have hfe : rs.flatten = ps.flatten := rise_perm hperm hT12.rise hrise
      have S12 := Lib.hid (And.intro s12 hfe)
      clear s12 hT12 hk12 ho12 x0 x1 hfe hL2
      go_wp2_with (fail)
      refine AL.out.mono ?_
      rintro e w13 ⟨A13, d13, hs13, rfl, hc13, ho13, hb13⟩
      have s13 := S12.out.1.below hb13
      have SM := rsameL_any A13 _ d13 hs13 A0 _ d0 hs0 w13 ho13.arg s13.al.arg
      rw [show decide (cns hs13 = cns hs0) = true from decide_eq_true (by rw [hc13, S12.out.2, hal.out])] at SM
      have SM := Lib.hid SM
      have S13 := Lib.hid s13.us.bel
      clear s13 hc13 ho13 hb13
      go_wp2_with (fail)
      refine SM.out.mono ?_
      rintro e w14 ⟨rfl, hb14⟩
      have B14 := Lib.hid (bThen S13.out hb14)
      clear hb14
      go_wp2_with (fail)
      refine (works25_any _).mono ?_
      rintro e w15 ⟨rfl, hb15⟩
      have B15 := Lib.hid (bThen B14.out hb15)
      clear hb15
      go_wp2_with (fail)
      go_ret
      exact ⟨rfl, B15.out⟩
  · have dq : (q == 0) = false := by simpa using hq0
    have dq2 : (q != 0) = true := by simpa using hq0
    obtain ⟨rfl, rfl, rfl⟩ := doM_err R.out hq0
    replace hm1 : m1 = 0 := hm1
    replace hm2 : m2 = 0 := hm2
    subst hm1 hm2
    have x0 := (row_cells s5.us.box 0).1
    have x1 := (row_cells s5.us.box 1).1
    have BY2 := Lib.hid (bytes_m s5.us.tb)
    have S5 := Lib.hid s5
    clear s5 hcs hrise hqrise hmost hok0 hq0 hwb
    go_wp2_with (fail)
    refine BY2.out.mono ?_
    rintro e w6 ⟨D6, d6, rfl, ho6, hb6⟩
    have s6 := S5.out.below hb6
    have SM := Lib.hid (same_is (c := d6) (d := d3) (r := true) (OwnN.rd ho6) (OwnN.rd s6.by_) hbl (by simp))
    have y0 := (row_cells s6.us.box 0).1
    have y1 := (row_cells s6.us.box 1).1
    have S6 := Lib.hid s6
    clear s6 ho6 hb6 x0 x1
    go_wp2_with (fail)
    refine SM.out.mono ?_
    rintro e w7 ⟨rfl, hb7⟩
    have s7 := S6.out.below hb7
    have x0 := (row_cells s7.us.box 0).1
    have x1 := (row_cells s7.us.box 1).1
    have B7 := Lib.hid s7.us.bel
    clear s7 hb7 y0 y1
    go_wp2_with (fail)
    refine (works25_any _).mono ?_
    rintro e w8 ⟨rfl, hb8⟩
    have B8 := Lib.hid (bThen B7.out hb8)
    clear hb8
    go_wp2_with (fail)
    go_ret
    exact ⟨rfl, B8.out⟩
end Go.Proofs.Ytofclanljhfkiaa
