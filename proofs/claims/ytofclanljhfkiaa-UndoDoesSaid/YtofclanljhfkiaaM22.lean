/- Joined texts: TcF, TcG, TcH. -/
import Derived.Test.YtofclanljhfkiaaM21
import Derived.Test.YtofclanljhfkiaaM18
/- One act on a table and the reference's: what it leaves. -/
namespace Go.Proofs.Ytofclanljhfkiaa
open Go.RowKit Go.Proofs En Co
set_option linter.unusedVariables false
set_option linter.unusedSimpArgs false
set_option maxRecDepth 20000

/-- a table and the reference's, of the same pages -/
structure PairS (w : World) (base g : Nat) (P : Option Addr) (h : Nat) (Q : Option Addr) (ps : List (List Cn)) : Prop where
  t : Tb w base g P ps
  r : RT w base h Q ps
  sep : ∀ k, blk P = some k → blk Q ≠ some k
section
variable {w w1 w' : World} {base g h g2 h2 : Nat} {P Q P' Q' P2 Q2 : Option Addr} {ps ps' qs : List (List Cn)}
theorem PairS.below (s : PairS w base g P h Q ps) (hb : Below w.heap.size w w') : PairS w' base g P h Q ps := ⟨s.t.below hb, s.r.below hb, s.sep⟩
theorem Tb.ne_rt (ht : Tb w base g P ps) (hr : RT w base h Q qs) : h ≠ g := by
  obtain ⟨xs, h1⟩ := hr.struct
  obtain ⟨np, cp, h2⟩ := ht.row
  intro e
  subst e
  rw [h1] at h2
  injection h2 with h2
  injection h2 with _ h2
  exact absurd h2 (by decide)
/-- what an act leaves: the table's change first, the reference's next -/
structure Moved (w w' : World) (base g : Nat) (P : Option Addr) (h : Nat) (Q : Option Addr) (ps : List (List Cn)) (P' Q' : Option Addr) (ps' : List (List Cn)) : Prop where
  mid : ∃ w1, Only w w1 g P ∧ Only w1 w' h none ∧ w.heap.size ≤ w1.heap.size
  pair : PairS w' base g P' h Q' ps'
  kp : Kept w P P'
  kq : Kept w Q Q'
  len : ps'.flatten.length ≤ ps.flatten.length + 1
theorem Moved.same (s : PairS w base g P h Q ps) (hb : Below w.heap.size w w') : Moved w w' base g P h Q ps P Q ps :=
  ⟨⟨w', Only.of hb, Only.refl _ _ _, hb.size⟩, s.below hb, .inl rfl, .inl rfl, Nat.le_succ _⟩
/-- another pair behind it -/
theorem Moved.other (m : Moved w w' base g P h Q ps P' Q' ps') (s : PairS w base g P h Q ps) (o : PairS w base g2 P2 h2 Q2 qs) (hg : g2 ≠ g) (hh : h2 ≠ h) (s1 : ∀ k, blk P = some k → blk P2 ≠ some k) (s2 : ∀ k, blk P = some k → blk Q2 ≠ some k) : PairS w' base g2 P2 h2 Q2 qs := by
  obtain ⟨w1, o1, o2, _⟩ := m.mid
  have hS := Soft.tb s.t o1
  have r1 := s.r.soft hS (s.t.ne_rt s.r) s.sep
  obtain ⟨xs, hx⟩ := r1.struct
  have u1 := o.t.only o1 s.t.kinds hg s1
  have v1 := o.r.soft hS (s.t.ne_rt o.r) s2
  exact ⟨u1.ref o2 hx, v1.soft (r1.soft_of o2) hh (fun k hk => by cases hk), o.sep⟩
/-- both changes joined -/
theorem Moved.of (s : PairS w base g P h Q ps) (o1 : Only w w1 g P) (t1 : Tb w1 base g P' ps') (k1 : Kept w P P') (o2 : Only w1 w' h none) (r2 : RT w' base h Q' ps') (k2 : Kept w1 Q Q') (hlen : ps'.flatten.length ≤ ps.flatten.length + 1) : Moved w w' base g P h Q ps P' Q' ps' := by
  have hS := Soft.tb s.t o1
  have r1 := s.r.soft hS (s.t.ne_rt s.r) s.sep
  obtain ⟨xs, hx⟩ := r1.struct
  have hkq : Kept w Q Q' := by
    rcases k2 with h1 | h1
    · exact .inl h1
    · exact .inr fun k hk => Nat.le_trans o1.size (h1 k hk)
  refine ⟨⟨w1, o1, o2, o1.size⟩, ⟨t1.ref o2 hx, r2, fun k hk hk2 => ?_⟩, k1, hkq, hlen⟩
  rcases k2 with h1 | h1
  · rw [h1] at hk2
    rcases k1 with h3 | h3
    · rw [h3] at hk; exact s.sep k hk hk2
    · have := h3 k hk
      obtain ⟨np, cp, gs, _, _, _, _, _, _, h7⟩ := s.r.ex
      have := (h7 k hk2).2.1
      omega
  · have := h1 k hk2
    have := (t1.plow k hk).2
    omega
theorem Moved.below (m : Moved w w1 base g P h Q ps P' Q' ps') (s : PairS w base g P h Q ps) (hb : Below w1.heap.size w1 w') : Moved w w' base g P h Q ps P' Q' ps' := by
  obtain ⟨w2, o1, o2, h3⟩ := m.mid
  exact ⟨⟨w2, o1, o2.then hb, h3⟩, m.pair.below hb, m.kp, m.kq, m.len⟩
/-- an act's cells in a box -/
theorem act_row {x : Ac} {B : Nat} {t : TypeId} (hx : x.m.c.p.ok) (hr : w.heap[B]? = some (.cells (ac x).toArray t (0, 0))) : w.cell? ⟨B, 0, none⟩ = some (.int .i64 x.d) ∧ (∀ j v, (cc x.m)[j]? = some v → w.cell? ((⟨B, 1, none⟩ : Addr).add j) = some v) := by
  refine ⟨(row_cells hr 0).1, fun j v hv => ?_⟩
  have hj := (List.getElem?_eq_some_iff.1 hv).1
  have e : (⟨B, 1, none⟩ : Addr).add j = ⟨B, 1 + j, none⟩ := by
    unfold Addr.add
    by_cases hj : j = 0
    · subst hj; rfl
    · rw [if_neg hj]
  rw [e, (row_cells hr (1 + j)).1]
  unfold ac
  rw [Nat.add_comm 1 j]
  simp only [List.getElem?_toArray, List.getElem?_cons_succ]
  rw [List.getElem?_append_left hj]
  exact hv
end
end Go.Proofs.Ytofclanljhfkiaa
/- One act on a table and the reference's: the walk. -/
namespace Go.Proofs.Ytofclanljhfkiaa
open Go.RowKit Go.Proofs En Co
set_option linter.unusedVariables false
set_option linter.unusedSimpArgs false
set_option maxRecDepth 20000
attribute [local go_sem ↓] ld_point_eq ld_coin_eq ld_hash_eq st_point_eq st_coin_eq bd_point_eq bd_coin_eq eq_point_eq ne_point_eq al_coin_eq al_point_eq bs_coin_eq
attribute [local go_sem] ld_point_run ld_coin_run ld_hash_run st_point_run st_coin_run bd_point_zero bd_coin_zero bd_point_of bd_coin_of hash_at rowIs_34 rowIs_37 rowIs_both hasAt_both cellsAt_both eq_point_run ne_point_run guard_pt al_coin_run al_point_run al_coin_row al_point_row nil_bytes nil_coins bs_coin_run

abbrev LdA (w0 : World) (a : Ac) (w' : World) : Prop := (ld_coin (.pointer (some ⟨w0.heap.size, 1, none⟩))).run Try.prog w' = .ok (.agg (cc a.m).toArray) w'
theorem LdA.of {w w' : World} {a : Ac} (hp : a.m.c.p.ok) (hr : w'.heap[w.heap.size]? = some (.cells (ac a).toArray 69 (0, 0))) : LdA w a w' := ld_coin_at _ _ a.m hp (act_row hp hr).2
theorem Only.pre {w w1 w2 : World} {g : Nat} {P : Option Addr} (hb : Below w.heap.size w w1) (ho : Only w1 w2 g P) : Only w w2 g P :=
  ⟨ho.os.trans hb.os, ho.tape.trans hb.tape, ho.output.trans hb.output, Nat.le_trans hb.size ho.size, fun k hk h1 h2 => (ho.block k (Nat.lt_of_lt_of_le hk hb.size) h1 h2).trans (hb.block k hk)⟩
section
variable {w w1 w' : World} {base g h : Nat} {P Q P' Q' : Option Addr} {ps ps' : List (List Cn)}
theorem Kept.pre (hk : Kept w1 P P') (hb : Below w.heap.size w w1) : Kept w P P' := by
  rcases hk with h1 | h1
  · exact .inl h1
  · exact .inr fun k hk => Nat.le_trans hb.size (h1 k hk)
theorem Moved.pre (m : Moved w1 w' base g P h Q ps P' Q' ps') (hb : Below w.heap.size w w1) : Moved w w' base g P h Q ps P' Q' ps' := by
  obtain ⟨w2, o1, o2, h3⟩ := m.mid
  exact ⟨⟨w2, o1.pre hb, o2, Nat.le_trans hb.size h3⟩, m.pair, m.kp.pre hb, m.kq.pre hb, m.len⟩
theorem PairS.ref_after (s : PairS w base g P h Q ps) (ho : Only w w1 g P) : RT w1 base h Q ps := s.r.soft (Soft.tb s.t ho) (s.t.ne_rt s.r) s.sep
end
theorem cm_own {w : World} {base k : Nat} {A : Option Addr} {c : Cn} (hc : c.ok) (h : OwnB w base A c.l.length k c.l) (hl : c.l.length ≤ 140737488355328) : (⟨c, A, k⟩ : Cm).ok w := ⟨hc, h.rd, hc.l, (Own.len_cap h).1, (Own.len_cap h).2, hl⟩
theorem getM_ok {ps : List (List Cn)} {p : Pt} (h : ∀ c ∈ ps.flatten, c.ok) : (getM ps p).1.ok := by
  cases hf : findF ps p with
  | none => rw [getM_none hf]; exact zeroCn_ok
  | some d => rw [getM_some hf]; exact h d (findF_some hf).1
theorem takeM_ok {ps : List (List Cn)} {p : Pt} (h : ∀ c ∈ ps.flatten, c.ok) : (takeM ps p).2.1.ok := by
  cases hf : findF ps p with
  | none => rw [takeM_no hf]; exact zeroCn_ok
  | some d => rw [takeM_yes hf]; exact h d (findF_some hf).1
def actEnd (w w' : World) (e : Ending) (base g : Nat) (P : Option Addr) (h : Nat) (Q : Option Addr) (ps : List (List Cn)) : Prop :=
  e = .returned (.bool true) ∧ ∃ P' Q' ps', Moved w w' base g P h Q ps P' Q' ps'

set_option maxRecDepth 20000 in
set_option maxHeartbeats 4000000 in
theorem act_m {w : World} {base g h : Nat} {P Q : Option Addr} {ps : List (List Cn)} (pr : PairS w base g P h Q ps) (a : Ac) (hd : -9223372036854775808 ≤ a.d ∧ a.d ≤ 9223372036854775807) (hok : a.m.ok w) (hfar : 0 < a.m.c.l.length → blk a.m.A ≠ some g) (hfl : FirmL w base a.m) :
    Calls Try.prog 46 #[ptr g, ptr h, .agg (ac a).toArray] w fun e w' => actEnd w w' e base g P h Q ps := by
  have hm1 := pr.t.most
  have hm2 := pr.t.many
  have hpos := pr.t.pos
  have r0 : (w.alloc (.cells (ac a).toArray 69)).heap[w.heap.size]? = some (.cells (ac a).toArray 69 (0, 0)) := heap_alloc_new w _
  have b0 : Below w.heap.size w (w.alloc (.cells (ac a).toArray 69)) := (Below.refl _ _).alloc (Nat.le_refl _) _
  obtain ⟨c0, c1⟩ := act_row hok.c.p r0
  have hgl := pr.t.low.2
  have hhl : h < w.heap.size := by
    obtain ⟨xs, hx⟩ := pr.r.struct
    exact (Array.getElem?_eq_some_iff.1 hx).1
  have H := Lib.hid (And.intro pr (And.intro hok (And.intro hfar (And.intro hfl (And.intro r0 (And.intro b0 hpos))))))
  clear pr hfar hfl r0 b0 hpos
  go_enter Try.func46, Try.ntmps46
  by_cases hd0 : a.d = 0
  · have d0 : (a.d == 0) = true := by rw [hd0]; rfl
    have hS1 : LdA w a (w.alloc (.cells (ac a).toArray 69)).drew := ld_coin_at _ _ a.m hok.c.p c1
    have pr := H.out.1.below H.out.2.2.2.2.2.1.drew
    obtain ⟨q, hq⟩ : ∃ q, (putM ps a.m.c).2 = q := ⟨_, rfl⟩
    have PU := put_m pr.t a.m (H.out.2.1.below H.out.2.2.2.2.2.1.drew) H.out.2.2.1
    rw [hq] at PU
    have RP : ∀ w3, Only (w.alloc (.cells (ac a).toArray 69)).drew w3 g P → Calls Try.prog 55 #[ptr h, .agg (cc a.m).toArray] w3 fun e w' => e = .returned (.int .i64 q) ∧ ∃ Q', RT w' base h Q' (putM ps a.m.c).1 ∧ Only w3 w' h none ∧ Kept w3 Q Q' := fun w3 ho => by
      have hS := Soft.tb pr.t ho
      have := rput_m (pr.ref_after ho) H.out.2.2.2.2.2.2 hm1 hm2 a.m (Cm.soft (H.out.2.1.below H.out.2.2.2.2.2.1.drew) (H.out.2.2.2.1.below H.out.2.2.2.2.2.1.drew) hS) (fun h0 => (H.out.2.2.2.1.below H.out.2.2.2.2.2.1.drew h0).soft hS)
      unfold rputEnd at this
      rw [hq] at this
      exact this
    have PU := Lib.hid PU
    have RP := Lib.hid RP
    have RW := Lib.hid (show ∀ w3, Only (w.alloc (.cells (ac a).toArray 69)).drew w3 g P → w3.heap[w.heap.size]? = some (.cells (ac a).toArray 69 (0, 0)) from fun w3 ho => ho.heap H.out.2.2.2.2.1 (by omega) (fun e => by have := (H.out.1.t.plow _ e).2; omega))
    have PR := Lib.hid pr
    have dq : (q == q) = true := beq_self_eq_true _
    clear hok c1 hd0 pr hq
    go_wp2_with (fail)
    go_region_held3 (fun w' => LdA w a w') (first | exact hS3 | exact hS2 | exact hS1)
      (first
        | (go_at_call 27; (with_reducible refine PU.out.mono ?_); rintro e w3 ⟨rfl, P', hT, hk, ho⟩; have hS2 : LdA w a w3 := LdA.of H.out.2.1.c.p (RW.out w3 ho))
        | (go_at_call 55; (with_reducible refine (RP.out w3 ho).mono ?_); rintro e w4 ⟨rfl, Q', hR, ho2, hk2⟩; have hS3 : LdA w a w4 := LdA.of H.out.2.1.c.p (ho2.heap (RW.out w3 ho) (by omega) (fun e => by cases e))))
    rename_i hHeldX
    have MV := Lib.hid (Moved.pre (Moved.of PR.out ho hT hk ho2 hR hk2 (putM_len _ _)) H.out.2.2.2.2.2.1.drew)
    clear hHeldX hS1 hS2 hS3 hT hk ho hR ho2 hk2
    go_wp2_with (fail)
    go_ret
    exact ⟨rfl, P', Q', _, MV.out⟩
  · have d0 : (a.d == 0) = false := by simpa using hd0
    by_cases hd1 : a.d = 1
    · have d1 : (a.d == 1) = true := by rw [hd1]; rfl
      have d1b : ((1 : Int) == 0) = false := rfl
      have hlp := ld_point_at _ _ a.m hok.c.p c1
      have pb := H.out.1.below H.out.2.2.2.2.2.1
      have TK := take_m pb.t a.m.c.p hok.c.p
      have hck := takeM_ok (p := a.m.c.p) H.out.1.t.ok
      have hlen := takeM_len ps a.m.c.p
      obtain ⟨ps2, c, q, hcq⟩ : ∃ ps2 c q, takeM ps a.m.c.p = (ps2, c, q) := ⟨_, _, _, rfl⟩
      simp only [hcq] at TK hck hlen
      have TK := Lib.hid TK
      have HC := Lib.hid (And.intro hcq (And.intro hlen pb))
      have dq : (q == q) = true := beq_self_eq_true _
      have hokz := cc_ok (m := zm) zeroPt_ok
      have hwb : w.heap.size + 1 = (w.alloc (.cells (ac a).toArray 69)).heap.size := by simp
      have HW := Lib.hid hwb
      clear hd0 c1 hcq hlen pb hwb
      go_wp2_with (fail)
      refine TK.out.mono ?_
      rintro e w3 ⟨A3, k3, rfl, hl3, P', hT, hk, ho⟩
      have hok3 := cc_ok (m := ⟨c, A3, k3⟩) hck.p
      have sl := slot_self w3 (.cells (cc zm).toArray 57) (cc ⟨c, A3, k3⟩).toArray
      have ho3 := ho.then sl
      have hsz3 : w.heap.size + 1 ≤ w3.heap.size := by rw [HW.out]; exact ho.size
      have hlp3 := ld_point_at _ _ a.m hok.c.p (act_row hok.c.p (ho3.heap H.out.2.2.2.2.1 (by omega) (fun e => by have := (H.out.1.t.plow _ e).2; omega))).2
      have RG := rtake_m (HC.out.2.2.ref_after ho3) hm1 hm2 a.m.c.p hok.c.p
      rw [HC.out.1] at RG
      have RG := Lib.hid RG
      have S3 := Lib.hid (And.intro ho3 (And.intro (OwnN.below hl3 sl) (And.intro (both_row w3 (cc zm).toArray 57 (cc ⟨c, A3, k3⟩).toArray) (And.intro (hT.below sl) hk))))
      clear hl3 hT hk ho sl ho3 hlp
      go_wp2_with (fail)
      refine RG.out.mono ?_
      rintro e w4 ⟨m4, rfl, hm4, ok4, fl4, Q', hR, ho4, hk4⟩
      have hok4 := cc_ok ok4.c.p
      have sl4 := slot_self w4 (.cells (cc zm).toArray 57) (cc m4).toArray
      have r34 := kept (ho4.heap S3.out.2.2.1 (by omega) (fun e => by cases e)) sl4
      obtain ⟨⟨k37, c37⟩, _⟩ := coin_has (m := ⟨c, A3, k3⟩) hck.p r34
      obtain ⟨xs, hx⟩ := (HC.out.2.2.ref_after S3.out.1).struct
      have hlo := Own.onlyR (P := none) S3.out.2.1 ho4 hx (fun k hk => by cases hk) (by decide) (by decide)
      have hm4' : m4.c = c := hm4
      have SM := rsame06_any ⟨c, A3, k3⟩ m4 _ (cm_own hck (OwnN.below hlo sl4) (by rw [← hm4']; exact ok4.arg.len)) (ok4.below sl4)
      rw [show decide ((⟨c, A3, k3⟩ : Cm).c = m4.c) = true from decide_eq_true hm4'.symm] at SM
      have SM := Lib.hid SM
      have MV := Lib.hid (Moved.below (Moved.of HC.out.2.2 S3.out.1 S3.out.2.2.2.1 S3.out.2.2.2.2 ho4 hR hk4 (Nat.le_succ_of_le HC.out.2.1)) HC.out.2.2 sl4)
      clear hm4 hm4' ok4 fl4 hR ho4 hk4 sl4 r34 hlp3 hlo hx
      go_wp2_with (fail)
      refine SM.out.mono ?_
      rintro e w5 ⟨rfl, hb5⟩
      have M5 := Lib.hid (Moved.pre (MV.out.below HC.out.2.2 hb5) H.out.2.2.2.2.2.1)
      clear hb5
      go_wp2_with (fail)
      go_ret
      exact ⟨rfl, P', Q', _, M5.out⟩
    · have d1 : (a.d == 1) = false := by simpa using hd1
      by_cases hd2 : a.d = 2
      · have d2 : (a.d == 2) = true := by rw [hd2]; rfl
        have hlp := ld_point_at _ _ a.m hok.c.p c1
        have GT := get_m (H.out.1.t.below H.out.2.2.2.2.2.1) a.m.c.p hok.c.p
        have hck := getM_ok (p := a.m.c.p) H.out.1.t.ok
        obtain ⟨c, q, hcq⟩ : ∃ c q, getM ps a.m.c.p = (c, q) := ⟨_, _, rfl⟩
        simp only [hcq] at GT hck
        have GT := Lib.hid GT
        have HC := Lib.hid hcq
        have dq : (q == q) = true := beq_self_eq_true _
        have hokz := cc_ok (m := zm) zeroPt_ok
        clear hd0 hd1 c1 hcq
        go_wp2_with (fail)
        refine GT.out.mono ?_
        rintro e w3 ⟨A3, k3, rfl, hl3, hb3⟩
        have hok3 := cc_ok (m := ⟨c, A3, k3⟩) hck.p
        have sl := slot_self w3 (.cells (cc zm).toArray 57) (cc ⟨c, A3, k3⟩).toArray
        have b3 := bThen hb3 sl
        have bw3 := bThen H.out.2.2.2.2.2.1 b3
        have hlp3 := ld_point_at _ _ a.m hok.c.p (act_row hok.c.p (kept H.out.2.2.2.2.1 b3)).2
        have RG := rget_m (H.out.1.r.below bw3) (by omega) (by omega) a.m.c.p hok.c.p
        simp only [HC.out] at RG
        have RG := Lib.hid RG
        have S3 := Lib.hid (And.intro bw3 (And.intro (OwnN.below hl3 sl) (both_row w3 (cc zm).toArray 57 (cc ⟨c, A3, k3⟩).toArray)))
        clear hl3 hb3 sl b3 bw3 hlp
        go_wp2_with (fail)
        refine RG.out.mono ?_
        rintro e w4 ⟨m4, rfl, hm4, ok4, fl4, hb4, _⟩
        have hok4 := cc_ok ok4.c.p
        have sl4 := slot_self w4 (.cells (cc zm).toArray 57) (cc m4).toArray
        have b4 := bThen hb4 sl4
        have r34 := kept S3.out.2.2 b4
        obtain ⟨⟨k37, c37⟩, _⟩ := coin_has (m := ⟨c, A3, k3⟩) hck.p r34
        have SM := rsame06_any ⟨c, A3, k3⟩ m4 _ (cm_own hck (OwnN.below S3.out.2.1 b4) (by rw [← hm4]; exact ok4.arg.len)) (ok4.below sl4)
        rw [show decide ((⟨c, A3, k3⟩ : Cm).c = m4.c) = true from decide_eq_true hm4.symm] at SM
        have SM := Lib.hid SM
        have S4 := Lib.hid (bThen S3.out.1 b4)
        clear hm4 ok4 fl4 hb4 sl4 b4 r34 hlp3
        go_wp2_with (fail)
        refine SM.out.mono ?_
        rintro e w5 ⟨rfl, hb5⟩
        have B5 := Lib.hid (bThen S4.out hb5)
        clear hb5
        go_wp2_with (fail)
        go_ret
        exact ⟨rfl, P, Q, ps, Moved.same H.out.1 B5.out⟩
      · have d2 : (a.d == 2) = false := by simpa using hd2
        have B := Lib.hid H.out.2.2.2.2.2.1
        clear hd0 hd1 hd2 c1
        go_wp2_with (fail)
        go_ret
        exact ⟨rfl, P, Q, ps, Moved.same H.out.1 B.out⟩
end Go.Proofs.Ytofclanljhfkiaa
/- TablePlays: two pairs of tables. -/
namespace Go.Proofs.Ytofclanljhfkiaa
open Go.RowKit Go.Proofs En Co
set_option linter.unusedVariables false
set_option linter.unusedSimpArgs false
set_option maxRecDepth 20000

/-- two pairs, apart from one another -/
structure Plays (w wr : World) (g1 : Nat) (P1 : Option Addr) (h1 : Nat) (Q1 : Option Addr) (ps : List (List Cn)) (g2 : Nat) (P2 : Option Addr) (h2 : Nat) (Q2 : Option Addr) (qs : List (List Cn)) : Prop where
  bel : Below w.heap.size w wr
  p : PairS wr w.heap.size g1 P1 h1 Q1 ps
  o : PairS wr w.heap.size g2 P2 h2 Q2 qs
  ng : g2 ≠ g1
  nh : h2 ≠ h1
  s1 : ∀ k, blk P1 = some k → blk P2 ≠ some k
  s2 : ∀ k, blk P1 = some k → blk Q2 ≠ some k
  s3 : ∀ k, blk P2 = some k → blk Q1 ≠ some k
section
variable {w wr wr1 wr2 : World} {g1 h1 g2 h2 g3 h3 : Nat} {P1 Q1 P2 Q2 P3 Q3 : Option Addr} {ps qs rs : List (List Cn)}
theorem Plays.below (s : Plays w wr g1 P1 h1 Q1 ps g2 P2 h2 Q2 qs) (hb : Below wr.heap.size wr wr1) : Plays w wr1 g1 P1 h1 Q1 ps g2 P2 h2 Q2 qs :=
  ⟨bThen s.bel hb, s.p.below hb, s.o.below hb, s.ng, s.nh, s.s1, s.s2, s.s3⟩
theorem RT.qlow {base g : Nat} {Q : Option Addr} (h : RT w base g Q ps) : ∀ k, blk Q = some k → base ≤ k ∧ k < w.heap.size := fun k hk => by
  obtain ⟨np, cp, gs, _, _, _, _, _, _, h7⟩ := h.ex
  exact ⟨(h7 k hk).1, (h7 k hk).2.1⟩
theorem RT.glow {base g : Nat} {Q : Option Addr} (h : RT w base g Q ps) : base ≤ g ∧ g < w.heap.size := by
  obtain ⟨xs, hx⟩ := h.struct
  exact ⟨h.low, (Array.getElem?_eq_some_iff.1 hx).1⟩
theorem kept_apart {P P' R : Option Addr} (hk : Kept wr P P') (hs : ∀ k, blk P = some k → blk R ≠ some k) (hR : ∀ k, blk R = some k → k < wr.heap.size) : ∀ k, blk P' = some k → blk R ≠ some k := by
  rcases hk with rfl | hk
  · exact hs
  · intro k h1 h2
    have := hk k h1
    have := hR k h2
    omega
theorem Moved.frame {base : Nat} {P' Q' : Option Addr} {ps' : List (List Cn)} (m : Moved wr wr1 base g1 P1 h1 Q1 ps P' Q' ps') (s : PairS wr base g1 P1 h1 Q1 ps) : Below base wr wr1 := by
  obtain ⟨w1, o1, o2, h3⟩ := m.mid
  have b1 : Below base wr w1 := s.t.frame o1
  have hb : base ≤ wr.heap.size := by have := s.t.low; omega
  exact b1.trans (o2.below (Nat.le_trans hb h3) s.r.glow.1 (fun k hk => by cases hk))
theorem Plays.move1 (s : Plays w wr g1 P1 h1 Q1 ps g2 P2 h2 Q2 qs) (m : Moved wr wr1 w.heap.size g1 P1 h1 Q1 ps P3 Q3 rs) : Plays w wr1 g1 P3 h1 Q3 rs g2 P2 h2 Q2 qs := by
  refine ⟨s.bel.trans (m.frame s.p), m.pair, m.other s.p s.o s.ng s.nh s.s1 s.s2, s.ng, s.nh, ?_, ?_, ?_⟩
  · exact kept_apart m.kp s.s1 (fun k hk => (s.o.t.plow k hk).2)
  · exact kept_apart m.kp s.s2 (fun k hk => (s.o.r.qlow k hk).2)
  · intro k h1 h2
    exact kept_apart m.kq (fun k h3 h4 => s.s3 k h4 h3) (fun k hk => (s.o.t.plow k hk).2) k h2 h1
theorem Plays.flip (s : Plays w wr g1 P1 h1 Q1 ps g2 P2 h2 Q2 qs) : Plays w wr g2 P2 h2 Q2 qs g1 P1 h1 Q1 ps :=
  ⟨s.bel, s.o, s.p, s.ng.symm, s.nh.symm, fun k h1 h2 => s.s1 k h2 h1, s.s3, s.s2⟩
theorem Plays.move2 (s : Plays w wr g1 P1 h1 Q1 ps g2 P2 h2 Q2 qs) (m : Moved wr wr1 w.heap.size g2 P2 h2 Q2 qs P3 Q3 rs) : Plays w wr1 g1 P1 h1 Q1 ps g2 P3 h2 Q3 rs :=
  (s.flip.move1 m).flip
theorem Plays.copy (hb : Below w.heap.size w wr) (s : PairS wr w.heap.size g1 P1 h1 Q1 ps) (hb1 : Below wr.heap.size wr wr1) (ht : Tb wr1 wr.heap.size g3 P3 ps) (hb2 : Below wr1.heap.size wr1 wr2) (hr : RT wr2 w.heap.size h3 Q3 ps) (hh : wr1.heap.size ≤ h3) (hQ : ∀ k, blk Q3 = some k → wr1.heap.size ≤ k) : Plays w wr2 g1 P1 h1 Q1 ps g3 P3 h3 Q3 ps := by
  have z1 := hb1.size
  have z0 := hb.size
  have t1 := s.t.low
  have r1 := s.r.glow
  have t3 := ht.low
  refine ⟨bThen (bThen hb hb1) hb2, (s.below hb1).below hb2, ⟨(ht.mono z0).below hb2, hr, fun k h1 h2 => ?_⟩, by omega, by omega, fun k h1 h2 => ?_, fun k h1 h2 => ?_, fun k h1 h2 => ?_⟩
  · have := (ht.plow k h1).2; have := hQ k h2; omega
  · have := (s.t.plow k h1).2; have := (ht.plow k h2).1; omega
  · have := (s.t.plow k h1).2; have := hQ k h2; omega
  · have := (ht.plow k h1).1; have := (s.r.qlow k h2).2; omega
end
end Go.Proofs.Ytofclanljhfkiaa
