/- Joined texts: UnP, UnQ. -/
import Derived.Test.YtofclanljhfkiaaM27
import Derived.Test.YtofclanljhfkiaaM22
import Derived.Test.YtofclanljhfkiaaM23
/- both: a table and the reference's, of coins. -/
namespace Go.Proofs.Ytofclanljhfkiaa
open Go.RowKit Go.Proofs En Co
set_option linter.unusedVariables false
set_option linter.unusedSimpArgs false
set_option maxRecDepth 20000
attribute [local go_sem ↓] ld_point_eq ld_coin_eq ld_hash_eq st_point_eq st_coin_eq bd_point_eq bd_coin_eq eq_point_eq ne_point_eq al_coin_eq al_point_eq bs_coin_eq
attribute [local go_sem] ld_point_run ld_coin_run ld_hash_run st_point_run st_coin_run bd_point_zero bd_coin_zero bd_point_of bd_coin_of hash_at rowIs_34 rowIs_37 rowIs_both hasAt_both cellsAt_both eq_point_run ne_point_run guard_pt al_coin_run al_point_run al_coin_row al_point_row nil_bytes nil_coins bs_coin_run

/-- what both leaves -/
def BothE (w : World) (e : Ending) (w' : World) : Prop :=
  ∃ (g : Nat) (P : Option Addr) (h : Nat) (Q : Option Addr) (ps : List (List Cn)), e = .returned (.tuple #[ptr g, ptr h]) ∧ PairS w' w.heap.size g P h Q ps ∧ AllMay ps ∧ Below w.heap.size w w'

set_option maxRecDepth 20000 in
set_option maxHeartbeats 4000000 in
theorem both_any {w : World} {B : Option Addr} {n c : Nat} {hs : List Cm} (ha : ArgP w B n c hs) (hc : c ≤ 1759218604392) :
    Calls Try.prog 18 #[.slice B n c] w fun e w' => BothE w e w' := by
  have hcap := ha.cap
  have HA := Lib.hid ha
  clear ha
  go_enter Try.func18, Try.ntmps18
  go_wp2_with (fail)
  refine (new_m w).mono ?_
  rintro e w1 ⟨rfl, hT1, hb1⟩
  have RN := Lib.hid (rnew_any w1)
  have H1 := Lib.hid (And.intro hT1 hb1)
  clear hT1 hb1
  go_wp2_with (fail)
  refine RN.out.mono ?_
  rintro e w2 ⟨rfl, hw2⟩
  have hsz1 := H1.out.2.size
  have hb2 : Below w1.heap.size w1 w2 := by rw [hw2]; exact (Below.refl _ _).alloc (Nat.le_refl _) _
  have hr2 : RT w2 w.heap.size w1.heap.size none [] := by
    rw [hw2]
    exact ⟨hsz1, 0, 0, [], heap_alloc_new w1 _, Rd.nil _ _ _, Nat.le_refl _, Nat.zero_le _, (fun _ h => by cases h), rfl, fun k hk => (by cases hk)⟩
  have p2 : PairS w2 w.heap.size w.heap.size none w1.heap.size none [] := ⟨H1.out.1.below hb2, hr2, fun k h => by cases h⟩
  have S2 := Lib.hid (And.intro p2 (bThen H1.out.2 hb2))
  clear hr2 hb2 hw2 H1 hsz1 RN p2
  generalize hgg : w1.heap.size = h1 at *
  clear hgg
  go_wp2_with (fail)
  go_loopw [6] (fun i wr => ∃ (j : Nat) (P Q : Option Addr) (ps : List (List Cn)), j ≤ n ∧ j ≤ 60 ∧ i = .int .i64 j ∧ PairS wr w.heap.size w.heap.size P h1 Q ps ∧ AllMay ps ∧ Below w.heap.size w wr) (fun i _ => n - (intOf i).toNat)
  case atStart => exact ⟨0, none, none, [], by omega, by omega, rfl, S2.out.1, AllMay.nil, S2.out.2⟩
  case round =>
    obtain ⟨j, P, Q, ps, hj, hj2, rfl, hs, ham, hbel⟩ := hrel
    by_cases hlt : j < n ∧ j < 60
    · have d1 : decide ((j : Int) < (n : Int)) = true := decide_eq_true (by omega)
      have d2 : decide ((j : Int) < 60) = true := decide_eq_true (by omega)
      obtain ⟨ad, m, rfl, hm, hok, hbk, hcx⟩ := (HA.out.below hbel).at_ hlt.1
      have hld := ld_coin_at wr (ad.add (j * 37)) m hok.c.p hcx
      have hfl : FirmL wr w.heap.size m := (lock_new (HA.out.ok m (List.mem_of_getElem? hm))).below hbel
      have hfar : 0 < m.c.l.length → blk m.A ≠ some w.heap.size := fun h0 => (hfl h0).ne_g hs.t
      obtain ⟨q, hq⟩ : ∃ q, (putM ps m.c).2 = q := ⟨_, rfl⟩
      have PU := put_m hs.t m hok hfar
      rw [hq] at PU
      have hm1 := hs.t.most
      have hm2 := hs.t.many
      have hpos := hs.t.pos
      have RP : ∀ w3, Only wr w3 w.heap.size P → (ld_coin (.pointer (some (ad.add (j * 37))))).run Try.prog w3 = .ok (.agg (cc m).toArray) w3 ∧ Calls Try.prog 55 #[ptr h1, .agg (cc m).toArray] w3 fun e w' => e = .returned (.int .i64 q) ∧ ∃ Q', RT w' w.heap.size h1 Q' (putM ps m.c).1 ∧ Only w3 w' h1 none ∧ Kept w3 Q Q' := fun w3 ho => by
        have hS := Soft.tb hs.t ho
        refine ⟨ld_coin_at w3 _ m hok.c.p (fun k v hv => ?_), ?_⟩
        · have hb0 : ad.block < w.heap.size := by
            obtain ⟨ad2, e2, hb2, _⟩ := HA.out.rd.2 (by omega : 0 < n)
            obtain rfl := Option.some.inj e2
            exact hb2
          rw [← hcx k v hv]
          refine World.cell?_of_block ?_
          rw [block_add, block_add]
          exact ho.block _ hbk (by omega) (fun e => by have := (hs.t.plow _ e).1; omega)
        · have := rput_m (hs.ref_after ho) hpos hm1 hm2 m (Cm.soft hok hfl hS) (fun h0 => (hfl h0).soft hS)
          unfold rputEnd at this
          rw [hq] at this
          exact this
      have PU := Lib.hid PU
      have RP := Lib.hid RP
      have X := Lib.hid (And.intro hs (And.intro ham hbel))
      have i1 : (0 : Int) ≤ (j : Int) := by omega
      have i2 : (j : Int) < (n : Int) := by omega
      clear hs ham hbel hm hok hcx hfl hfar hq hpos
      go_wp2_with (fail)
      refine PU.out.mono ?_
      rintro e w3 ⟨rfl, P', hT, hk, ho⟩
      have hld3 := (RP.out w3 ho).1
      have RC := Lib.hid (RP.out w3 ho).2
      have Y := Lib.hid (And.intro hT (And.intro hk ho))
      clear hT hk ho hld
      go_wp2_with (fail)
      refine RC.out.mono ?_
      rintro e w4 ⟨rfl, Q', hR, ho2, hk2⟩
      have mv := Moved.of X.out.1 Y.out.2.2 Y.out.1 Y.out.2.1 ho2 hR hk2 (putM_len _ _)
      have Z := Lib.hid (And.intro mv.pair (And.intro (X.out.2.1.put m.c) (X.out.2.2.trans (mv.frame X.out.1))))
      clear mv hR ho2 hk2 hld3
      go_wp2_with (fail)
      go_roundw
      case rel => exact ⟨j + 1, P', Q', _, by omega, by omega, by go_num, Z.out.1, Z.out.2.1, Z.out.2.2⟩
      case measure => simp [intOf]; omega
    · have X := Lib.hid (And.intro hs (And.intro ham hbel))
      clear hs ham hbel
      by_cases hjn : j < n
      · have d1 : decide ((j : Int) < (n : Int)) = true := decide_eq_true (by omega)
        have d2 : decide ((j : Int) < 60) = false := decide_eq_false (by omega)
        go_wp2_with (fail)
        go_ret2
        exact ⟨_, P, h1, Q, ps, rfl, X.out.1, X.out.2.1, X.out.2.2⟩
      · have d1 : decide ((j : Int) < (n : Int)) = false := decide_eq_false (by omega)
        go_wp2_with (fail)
        go_ret2
        exact ⟨_, P, h1, Q, ps, rfl, X.out.1, X.out.2.1, X.out.2.2⟩
end Go.Proofs.Ytofclanljhfkiaa
/- Undo, in plain Lean: what is done is undone. -/
namespace Go.Proofs.Ytofclanljhfkiaa
open Go.RowKit Go.Proofs En Co
set_option linter.unusedVariables false
set_option linter.unusedSimpArgs false
set_option maxRecDepth 20000

theorem rise_nodup {l : List Pt} (h : Rise l) : l.Nodup := List.Pairwise.imp (fun {a b} hab e => by subst e; rw [lessF_self] at hab; cases hab) h
theorem takes_perm : ∀ (xs : List Pt) (ps m : List (List Cn)) (cs : List Cn), Rise (ps.flatten.map Cn.p) → takesM ps xs = (m, cs, 0) → (cs ++ m.flatten).Perm ps.flatten ∧ cs.length = xs.length ∧ Rise (m.flatten.map Cn.p)
  | [], ps, m, cs, hr, h => by
    rw [takesM_nil] at h
    injection h with h1 h2
    injection h2 with h2 _
    subst h1 h2
    exact ⟨List.Perm.refl _, rfl, hr⟩
  | p :: r, ps, m, cs, hr, h => by
    rw [takesM_cons] at h
    split at h
    · rename_i h0
      obtain ⟨c, hf, e⟩ := take_yes h0
      have hpm := takeF2_perm hr hf
      have hr2 : Rise ((takeM ps p).1.flatten.map Cn.p) := by
        rw [e]
        show Rise ((takeF2 ps p).flatten.map Cn.p)
        rw [lostF_flat]
        exact hr.sub (List.Sublist.map _ List.filter_sublist)
      injection h with h1 h2
      injection h2 with h2 h3
      have ih := takes_perm r (takeM ps p).1 m (takesM (takeM ps p).1 r).2.1 hr2 (by rw [← h1, ← h3])
      rw [← h2]
      refine ⟨?_, by simpa using ih.2.1, ih.2.2⟩
      rw [e] at ih ⊢
      exact (List.Perm.cons c ih.1).trans hpm
    · rename_i h0
      injection h with h1 h2
      injection h2 with h2 h3
      exact absurd h3 h0
theorem puts_perm : ∀ (ys : List Cn) (m qs : List (List Cn)), putsM m ys = (qs, 0) → qs.flatten.Perm (ys ++ m.flatten) ∧ ∀ c ∈ ys, mayO c.v c.l = true
  | [], m, qs, h => by
    rw [putsM_nil] at h
    injection h with h1 _
    subst h1
    exact ⟨List.Perm.refl _, fun c h => by cases h⟩
  | y :: r, m, qs, h => by
    rw [putsM_cons] at h
    split at h
    · rename_i h0
      obtain ⟨h1, h2, e⟩ := put_yes h0
      rw [e] at h
      have ih := puts_perm r (putF2 m y) qs h
      refine ⟨ih.1.trans ?_, fun c hc => ?_⟩
      · refine (List.Perm.append_left r (putF2_perm m y)).trans ?_
        exact List.perm_middle
      · rcases List.mem_cons.1 hc with rfl | hc
        · exact h1
        · exact ih.2 c hc
    · rename_i h0
      rw [h] at h0
      exact absurd rfl h0
theorem takes_all : ∀ (ys : List Cn) (qs : List (List Cn)), Rise (qs.flatten.map Cn.p) → (∀ c ∈ ys, c ∈ qs.flatten) → (ys.map Cn.p).Nodup → ∃ m, takesM qs (ys.map Cn.p) = (m, ys, 0) ∧ (ys ++ m.flatten).Perm qs.flatten
  | [], qs, hr, hin, hnd => ⟨qs, rfl, List.Perm.refl _⟩
  | y :: r, qs, hr, hin, hnd => by
    have hf := findF_of hr (hin y (List.mem_cons_self ..)) rfl
    have e := takeM_some hf
    rw [List.map_cons] at hnd ⊢
    obtain ⟨hn1, hn2⟩ := List.nodup_cons.1 hnd
    have hfl : (takeF2 qs y.p).flatten = lostF qs.flatten y.p := lostF_flat qs y.p
    obtain ⟨m, h1, h2⟩ := takes_all r (takeF2 qs y.p) (by rw [hfl]; exact hr.sub (List.Sublist.map _ List.filter_sublist)) (fun c hc => by
      rw [hfl]
      unfold lostF
      refine List.mem_filter.2 ⟨hin c (List.mem_cons_of_mem _ hc), ?_⟩
      simp only [decide_eq_true_eq]
      intro e
      exact hn1 (by rw [← e]; exact List.mem_map.2 ⟨c, hc, rfl⟩)) hn2
    refine ⟨m, ?_, (List.Perm.cons y h2).trans (takeF2_perm hr hf)⟩
    rw [takesM_cons, e, if_pos rfl]
    show ((takesM (takeF2 qs y.p) (r.map Cn.p)).1, y :: (takesM (takeF2 qs y.p) (r.map Cn.p)).2.1, (takesM (takeF2 qs y.p) (r.map Cn.p)).2.2) = _
    rw [h1]
theorem puts_all : ∀ (cs : List Cn) (m : List (List Cn)), (∀ c ∈ cs, mayO c.v c.l = true) → ((cs ++ m.flatten).map Cn.p).Nodup → cs.length + m.flatten.length ≤ 2000 → ∃ rs, putsM m cs = (rs, 0)
  | [], m, _, _, _ => ⟨m, rfl⟩
  | c :: r, m, hm, hnd, hl => by
    rw [List.cons_append, List.map_cons] at hnd
    obtain ⟨hn1, hn2⟩ := List.nodup_cons.1 hnd
    have hf : findF m c.p = none := findF_none fun d hd e => hn1 (List.mem_map.2 ⟨d, List.mem_append_right _ hd, e⟩)
    have e := putM_ok (hm c (List.mem_cons_self ..)) hf (by rw [List.length_cons] at hl; omega)
    obtain ⟨rs, h⟩ := puts_all r (putF2 m c) (fun d hd => hm d (List.mem_cons_of_mem _ hd)) (by
      have hp : (r ++ (putF2 m c).flatten).Perm (c :: (r ++ m.flatten)) := (List.Perm.append_left r (putF2_perm m c)).trans List.perm_middle
      exact (hp.map Cn.p).nodup_iff.2 hnd) (by
      have := (putF2_perm m c).length_eq
      rw [List.length_cons] at this hl
      omega)
    exact ⟨rs, by rw [putsM_cons, e, if_pos rfl]; exact h⟩
/-- what is done is undone -/
theorem done_undone {ps qs : List (List Cn)} {xs pts : List Pt} {ys cs : List Cn} (hr : Rise (ps.flatten.map Cn.p)) (hl : ps.flatten.length ≤ 2000) (ham : ∀ c ∈ ps.flatten, mayO c.v c.l = true) (hq : Rise (qs.flatten.map Cn.p)) (h : doM ps xs ys = (qs, cs, pts, 0)) :
    pts = ys.map Cn.p ∧ cs.length = xs.length ∧ ∃ rs, backM qs cs pts = (rs, 0) ∧ rs.flatten.Perm ps.flatten := by
  unfold doM at h
  split at h
  · rename_i h1
    obtain ⟨m, ds, q, e1⟩ : ∃ m ds q, takesM ps xs = (m, ds, q) := ⟨_, _, _, rfl⟩
    rw [e1] at h h1
    simp only at h h1
    subst h1
    split at h
    · rename_i h2
      obtain ⟨rs2, q2, e2⟩ : ∃ rs2 q2, putsM m ys = (rs2, q2) := ⟨_, _, rfl⟩
      rw [e2] at h h2
      simp only at h h2
      subst h2
      injection h with g1 h
      injection h with g2 h
      injection h with g3 _
      subst g1 g2 g3
      obtain ⟨k1, k2, k3⟩ := takes_perm xs ps m ds hr e1
      obtain ⟨k4, k5⟩ := puts_perm ys m rs2 e2
      have hnq := rise_nodup hq
      have hn2 : ((ys ++ m.flatten).map Cn.p).Nodup := (k4.map Cn.p).nodup_iff.1 hnq
      rw [List.map_append] at hn2
      obtain ⟨m2, t1, t2⟩ := takes_all ys rs2 hq (fun c hc => k4.mem_iff.2 (List.mem_append_left _ hc)) (List.nodup_append.1 hn2).1
      have hmm : m2.flatten.Perm m.flatten := (List.perm_append_left_iff ys).1 (t2.trans k4)
      have hps : (ds ++ m2.flatten).Perm ps.flatten := (List.Perm.append_left ds hmm).trans k1
      have hrev : (ds.reverse ++ m2.flatten).Perm ps.flatten := (List.Perm.append_right _ (List.reverse_perm ds)).trans hps
      obtain ⟨rs3, u1⟩ := puts_all ds.reverse m2 (fun c hc => ham c (k1.mem_iff.1 (List.mem_append_left _ (List.mem_reverse.1 hc)))) ((hrev.map Cn.p).nodup_iff.2 (rise_nodup hr)) (by
        have := hrev.length_eq
        rw [List.length_append] at this
        omega)
      refine ⟨rfl, k2, rs3, backM_done t1 u1, ?_⟩
      exact (puts_perm _ _ _ u1).1.trans hrev
    · rename_i h2
      injection h with _ h
      injection h with _ h
      injection h with _ h
      exact absurd h h2
  · rename_i h1
    injection h with _ h
    injection h with _ h
    injection h with _ h
    exact absurd h h1
/-- what is undone twice is refused -/
theorem undone_twice {ps qs rs : List (List Cn)} {y : Cn} {r : List Cn} (h : doM ps [] (y :: r) = (qs, [], (y :: r).map Cn.p, 0)) (hp : rs.flatten.Perm ps.flatten) : backM rs [] ((y :: r).map Cn.p) = (rs, 6) := by
  have h0 : findF ps y.p = none := by
    unfold doM at h
    rw [takesM_nil, if_pos rfl] at h
    split at h
    · rename_i h2
      have h2 : (putsM ps (y :: r)).2 = 0 := h2
      rw [putsM_cons] at h2
      split at h2
      · rename_i h3
        exact (put_yes h3).2.1
      · rename_i h3
        exact absurd h2 h3
    · rename_i h2
      injection h with _ h
      injection h with _ h
      injection h with _ h
      exact absurd h h2
  have h1 : findF rs y.p = none := findF_none fun c hc e => by
    unfold findF at h0
    have := List.find?_eq_none.1 h0 c (hp.mem_iff.1 hc)
    simp [e] at this
  have e : takesM rs ((y :: r).map Cn.p) = (rs, [], 6) := by
    rw [List.map_cons, takesM_cons, takeM_none h1, if_neg (show ¬ (6 : Int) = 0 by decide)]
  rw [backM_take (by rw [e]; exact (show ¬ (6 : Int) = 0 by decide)), e]
end Go.Proofs.Ytofclanljhfkiaa
