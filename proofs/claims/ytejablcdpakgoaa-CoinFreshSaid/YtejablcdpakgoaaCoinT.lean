/- The walks of the statements CoinPuts and CoinSame. -/
import Derived.Test.YtejablcdpakgoaaCoinQ
namespace Go.Proofs.Ytejablcdpakgoaa
open Go.RowKit Go.Proofs En Co
set_option linter.unusedVariables false
set_option linter.unusedSimpArgs false
attribute [local go_sem ↓] ld_point_eq ld_coin_eq ld_hash_eq st_point_eq st_coin_eq bd_point_eq bd_coin_eq eq_point_eq ne_point_eq
attribute [local go_sem] ld_point_run ld_coin_run ld_hash_run st_point_run st_coin_run bd_point_zero bd_coin_zero bd_point_of bd_coin_of hash_at rowIs_34 rowIs_37 rowIs_both hasAt_both cellsAt_both eq_point_run ne_point_run guard_pt

theorem putOF_len {v : Int} {l p : List Int} {q : Int} (h : putOF v l = (p, q)) : p.length ≤ 200 := by
  cases hr : mayO v l with
  | false => rw [putOF_err hr] at h; injection h with h _; rw [← h]; exact Nat.zero_le _
  | true =>
    rw [putOF_ok hr] at h
    injection h with h _
    have hl : l.length ≤ 100 := by unfold mayO at hr; exact (of_decide_eq_true hr).2
    have := rowF_length l
    rw [← h, List.length_append, lowF_length]
    omega
theorem putCF_len {c : Cn} {p : List Int} {q : Int} (hp : c.p.ok) (h : putCF c = (p, q)) : p.length ≤ 200 := by
  cases hr : mayO c.v c.l with
  | false => rw [putCF_err hr] at h; injection h with h _; rw [← h]; exact Nat.zero_le _
  | true =>
    rw [putCF_ok hr] at h
    injection h with h _
    have hl : c.l.length ≤ 100 := by unfold mayO at hr; exact (of_decide_eq_true hr).2
    have := rowF_length c.l
    rw [← h]
    simp only [List.length_append, putPF_length hp, lowF_length, List.length_cons, List.length_nil]
    omega
theorem coin_has {w : World} {m : Cm} (hp : m.c.p.ok) {g : Nat} {t : TypeId} (hg : w.heap[g]? = some (.cells (cc m).toArray t (0, 0))) :
    (hasAt w g 0 37 ∧ cellsAt w g 0 37 = (cc m).toArray) ∧ (hasAt w g 0 34 ∧ cellsAt w g 0 34 = (pc m.c.p).toArray) := by
  have hr := coin_range hg
  have h4 := (cc_cells hp hg).2.2.2
  exact ⟨⟨hasAt_of hr (cc_length hp), cellsAt_of hr (cc_length hp)⟩, hasAt_of h4 (pc_length hp), cellsAt_of h4 (pc_length hp)⟩

/-- a coin and an output in their boxes -/
abbrev StX (w : World) (m : Cm) (v : Int) (u : Value) (w' : World) : Prop := Below w.heap.size w w' ∧ w'.heap[w.heap.size]? = some (.cells (cc m).toArray 31 (0, 0)) ∧ w'.heap[w.heap.size + 1]? = some (.cells #[.int .u64 v, u] 42 (0, 0)) ∧
  ((hasAt w' w.heap.size 0 37 ∧ cellsAt w' w.heap.size 0 37 = (cc m).toArray) ∧ (hasAt w' w.heap.size 0 34 ∧ cellsAt w' w.heap.size 0 34 = (pc m.c.p).toArray)) ∧ w'.cell? ⟨w.heap.size + 1, 0, none⟩ = some (.int .u64 v) ∧ w'.cell? ⟨w.heap.size + 1, 1, none⟩ = some u
section
variable {w w' w2 : World} {m : Cm} {v : Int} {u : Value}
theorem StX.of (hm : m.c.p.ok) (h : Below w.heap.size w w') (h0 : w'.heap[w.heap.size]? = some (.cells (cc m).toArray 31 (0, 0))) (h1 : w'.heap[w.heap.size + 1]? = some (.cells #[.int .u64 v, u] 42 (0, 0))) : StX w m v u w' :=
  ⟨h, h0, h1, coin_has hm h0, (row_cells h1 0).1, (row_cells h1 1).1⟩
theorem StX.below (hm : m.c.p.ok) (h : StX w m v u w') (hb : Below w'.heap.size w' w2) : StX w m v u w2 :=
  StX.of hm (bThen h.1 hb) ((hb.block _ (Array.getElem?_eq_some_iff.1 h.2.1).1).trans h.2.1) ((hb.block _ (Array.getElem?_eq_some_iff.1 h.2.2.1).1).trans h.2.2.1)
theorem StX.drew (hm : m.c.p.ok) (h : StX w m v u w') : StX w m v u w'.drew := StX.of hm h.1.drew h.2.1 h.2.2.1
end

set_option maxRecDepth 10000 in
set_option maxHeartbeats 2000000 in
theorem coinPuts_walk (m : Cm) (v : Int) (A : Option Addr) (k : Nat) (l : List Int) (w : World) (hm' : m.ok w ∧ m.k ≤ 140737488351232) (ho' : (0 ≤ v ∧ v < 18446744073709551616) ∧ Arg w A l.length k l) :
    Calls Try.prog 4 #[.agg (cc m).toArray, .agg #[.int .u64 v, .slice A l.length k]] w fun e w' => e = .returned (.bool true) ∧ Below w.heap.size w w' := by
  obtain ⟨hm, _⟩ := hm'
  obtain ⟨hv, hl⟩ := ho'
  obtain ⟨p1, q1, h1⟩ : ∃ p q, putOF v l = (p, q) := ⟨_, _, rfl⟩
  obtain ⟨p2, q2, h2⟩ : ∃ p q, putCF m.c = (p, q) := ⟨_, _, rfl⟩
  have l1 := putOF_len h1
  have l2 := putCF_len hm.c.p h2
  have L := Lib.hid (And.intro h1 h2)
  obtain ⟨b0, b1⟩ := two_box w (.cells (cc m).toArray 31) (.cells #[.int .u64 v, .slice A l.length k] 42)
  have hS0 : StX w m v (.slice A l.length k) ((w.alloc (.cells (cc m).toArray 31)).alloc (.cells #[.int .u64 v, .slice A l.length k] 42)) := StX.of hm.c.p (belA ((Below.refl _ _).alloc (Nat.le_refl _) _) _ (Nat.le_refl _)) b0 b1
  clear h1 h2 b0 b1
  go_enter Try.func4, Try.ntmps4
  go_wp2_with (fail)
  refine (putOut_is hv (hl.below hS0.1) L.out.1).mono ?_
  rintro e w1 ⟨A1, c1, rfl, ho1, hb1⟩
  have hS1 := hS0.below hm.c.p hb1
  have r1 := ho1.rd
  clear ho1 hb1 hS0
  go_wp2_with (fail)
  refine (rputOut_is hv (hl.below hS1.1) L.out.1).mono ?_
  rintro e w2 ⟨A2, c2, rfl, ho2, hb2⟩
  have hS2 := hS1.below hm.c.p hb2
  have r2 := ho2.rd
  have r1 := r1.below hb2
  clear ho2 hb2 hS1
  go_wp2_with (fail)
  refine (put06_is (hm.below hS2.1) L.out.2).mono ?_
  rintro e w3 ⟨A3, c3, rfl, ho3, hb3⟩
  have hS3 := hS2.below hm.c.p hb3
  have r3 := ho3.rd
  have r1 := r1.below hb3
  have r2 := r2.below hb3
  clear ho3 hb3 hS2
  go_wp2_with (fail)
  refine (rput06_is (hm.below hS3.1) L.out.2).mono ?_
  rintro e w4 ⟨A4, c4, rfl, ho4, hb4⟩
  have hS4 := hS3.below hm.c.p hb4
  have r4 := ho4.rd
  have r1 := r1.below hb4
  have r2 := r2.below hb4
  have r3 := r3.below hb4
  clear ho4 hb4 hS3
  have hS5 := hS4.drew hm.c.p
  have dq1 : (q1 == q1) = true := beq_self_eq_true _
  have dq2 : (q2 == q2) = true := beq_self_eq_true _
  go_wp2_with (fail)
  go_region_held3 (fun w' => StX w m v (.slice A l.length k) w') (first | exact hT6 | exact hT5 | exact hT4 | exact hT3 | exact hT2 | exact hT1 | exact hS5)
    (first
      | (go_at_call 17; refine (putPoint_any m.c.p hm.c.p _).mono ?_; rintro e w5 ⟨A5, c5, rfl, ho5, hb5⟩; have hT1 := hS5.below hm.c.p hb5; have u1 := ho5.rd; have s1 := r1.drew.below hb5; have s2 := r2.drew.below hb5; have s3 := r3.drew.below hb5; have s4 := r4.drew.below hb5)
      | (go_at_call 18; refine (rputPoint_any m.c.p hm.c.p _).mono ?_; rintro e w6 ⟨A6, c6, rfl, ho6, hb6⟩; have hT2 := hT1.below hm.c.p hb6; have u2 := ho6.rd; have u1 := u1.below hb6; have s1 := s1.below hb6; have s2 := s2.below hb6; have s3 := s3.below hb6; have s4 := s4.below hb6)
      | (go_at_call 13; (with_reducible refine (same_is (r := true) u1 u2 (by decide) (decide_eq_true rfl)).mono ?_); rintro e w7 ⟨rfl, hb7⟩; have hT3 := hT2.below hm.c.p hb7; have s1 := s1.below hb7; have s2 := s2.below hb7; have s3 := s3.below hb7; have s4 := s4.below hb7)
      | (go_at_call 13; (with_reducible refine (same_is (r := true) s1 s2 (by omega) (decide_eq_true rfl)).mono ?_); rintro e w8 ⟨rfl, hb8⟩; have hT4 := hT3.below hm.c.p hb8; have s3 := s3.below hb8; have s4 := s4.below hb8)
      | (go_at_call 13; (with_reducible refine (same_is (r := true) s3 s4 (by omega) (decide_eq_true rfl)).mono ?_); rintro e w9 ⟨rfl, hb9⟩; have hT5 := hT4.below hm.c.p hb9)
      | (go_at_call 12; (with_reducible refine (works06_any _).mono ?_); rintro e w10 ⟨rfl, hb10⟩; have hT6 := hT5.below hm.c.p hb10))
  have BL := Lib.hid hT6.1
  go_wp2_with (fail)
  go_ret
  exact ⟨rfl, BL.out⟩

/-- two coins in their boxes -/
abbrev StY (w : World) (a b : Cm) (w' : World) : Prop := Below w.heap.size w w' ∧ w'.heap[w.heap.size]? = some (.cells (cc a).toArray 31 (0, 0)) ∧ w'.heap[w.heap.size + 1]? = some (.cells (cc b).toArray 31 (0, 0)) ∧
  (hasAt w' w.heap.size 0 37 ∧ cellsAt w' w.heap.size 0 37 = (cc a).toArray) ∧ (hasAt w' (w.heap.size + 1) 0 37 ∧ cellsAt w' (w.heap.size + 1) 0 37 = (cc b).toArray)
section
variable {w w' w2 : World} {a b : Cm}
theorem StY.of (ha : a.c.p.ok) (hb : b.c.p.ok) (h : Below w.heap.size w w') (h0 : w'.heap[w.heap.size]? = some (.cells (cc a).toArray 31 (0, 0))) (h1 : w'.heap[w.heap.size + 1]? = some (.cells (cc b).toArray 31 (0, 0))) : StY w a b w' :=
  ⟨h, h0, h1, (coin_has ha h0).1, (coin_has hb h1).1⟩
theorem StY.below (ha : a.c.p.ok) (hb : b.c.p.ok) (h : StY w a b w') (hbl : Below w'.heap.size w' w2) : StY w a b w2 :=
  StY.of ha hb (bThen h.1 hbl) ((hbl.block _ (Array.getElem?_eq_some_iff.1 h.2.1).1).trans h.2.1) ((hbl.block _ (Array.getElem?_eq_some_iff.1 h.2.2.1).1).trans h.2.2.1)
theorem StY.drew (ha : a.c.p.ok) (hb : b.c.p.ok) (h : StY w a b w') : StY w a b w'.drew := StY.of ha hb h.1.drew h.2.1 h.2.2.1
end

/-! two coins that may be are the same just if their bytes are -/
theorem lowF_inj6 {n m : Int} {k : Nat} (hn : 0 ≤ n ∧ n < 256 ^ k) (hm : 0 ≤ m ∧ m < 256 ^ k) (h : lowF n k = lowF m k) : n = m := by
  have h1 := valF_lowF k n
  have h2 := valF_lowF k m
  rw [h] at h1
  rw [h1] at h2
  rwa [Int.emod_eq_of_lt hn.1 hn.2, Int.emod_eq_of_lt hm.1 hm.2] at h2
theorem putPF_inj {a b : Pt} (ha : a.ok) (hb : b.ok) (h : putPF a = putPF b) : a = b := by
  unfold putPF at h
  have h1 := List.append_inj h (by simp [ha.len, hb.len, lowF_length])
  have h2 := List.append_inj h1.1 (by simp [ha.len, hb.len])
  have hn := ha.n
  have hm := hb.n
  have hh := ha.h
  have hk := hb.h
  exact Pt.ext h2.1 (lowF_inj6 (k := 2) ⟨hn.1, by show a.n < 256 ^ 2; omega⟩ ⟨hm.1, by show b.n < 256 ^ 2; omega⟩ h2.2) (lowF_inj6 (k := 4) ⟨hh.1, by show a.h < 256 ^ 4; omega⟩ ⟨hk.1, by show b.h < 256 ^ 4; omega⟩ h1.2)
theorem rowF_inj {a b : List Int} (ha : a.length ≤ 100) (hb : b.length ≤ 100) (h : rowF a = rowF b) : a = b := by
  unfold rowF countF at h
  rw [if_pos (by omega), if_pos (by omega)] at h
  simp only [List.cons_append, List.nil_append, List.cons.injEq] at h
  exact h.2
theorem putCF_inj {a b : Cn} (ha : a.ok) (hb : b.ok) {p q : List Int} (h1 : putCF a = (p, 0)) (h2 : putCF b = (q, 0)) : (p = q) ↔ a = b := by
  constructor
  · rintro rfl
    cases ra : mayO a.v a.l with
    | false => rw [putCF_err ra] at h1; injection h1 with _ h; exact absurd h (by decide)
    | true =>
      cases rb : mayO b.v b.l with
      | false => rw [putCF_err rb] at h2; injection h2 with _ h; exact absurd h (by decide)
      | true =>
        rw [putCF_ok ra] at h1
        rw [putCF_ok rb] at h2
        injection h1 with e1 _
        injection h2 with e2 _
        rw [← e2] at e1
        have hla : a.l.length ≤ 100 := by unfold mayO at ra; exact (of_decide_eq_true ra).2
        have hlb : b.l.length ≤ 100 := by unfold mayO at rb; exact (of_decide_eq_true rb).2
        have g1 := List.append_inj e1 (by simp [putPF_length ha.p, putPF_length hb.p, lowF_length])
        have g2 := List.append_inj g1.1 (by simp [putPF_length ha.p, putPF_length hb.p, lowF_length])
        have g3 := List.append_inj g2.1 (by simp [putPF_length ha.p, putPF_length hb.p])
        have hva := ha.v
        have hvb := hb.v
        have eb : a.base = b.base := by
          have := (List.cons.inj g2.2).1
          unfold baseF at this
          cases h3 : a.base <;> cases h4 : b.base <;> simp_all
        exact Cn.ext (putPF_inj ha.p hb.p g3.1) (lowF_inj6 (k := 8) ⟨hva.1, by show a.v < 256 ^ 8; omega⟩ ⟨hvb.1, by show b.v < 256 ^ 8; omega⟩ g3.2) eb (rowF_inj hla hlb g1.2)
  · rintro rfl
    rw [h1] at h2
    injection h2

set_option maxRecDepth 10000 in
set_option maxHeartbeats 2000000 in
theorem coinSame_walk (a b : Cm) (w : World) (ha' : a.ok w ∧ a.k ≤ 140737488351232) (hb' : b.ok w ∧ b.k ≤ 140737488351232) :
    Calls Try.prog 5 #[.agg (cc a).toArray, .agg (cc b).toArray] w fun e w' => e = .returned (.bool true) ∧ Below w.heap.size w w' := by
  obtain ⟨ha, _⟩ := ha'
  obtain ⟨hb, _⟩ := hb'
  obtain ⟨p1, q1, h1⟩ : ∃ p q, putCF a.c = (p, q) := ⟨_, _, rfl⟩
  obtain ⟨p2, q2, h2⟩ : ∃ p q, putCF b.c = (p, q) := ⟨_, _, rfl⟩
  have l1 := putCF_len ha.c.p h1
  have l2 := putCF_len hb.c.p h2
  obtain ⟨r, hr⟩ : ∃ r, decide (a.c = b.c) = r := ⟨_, rfl⟩
  have hinj : q1 = 0 → q2 = 0 → decide (p1 = p2) = r := fun e1 e2 => by
    rw [← hr]
    exact decide_eq_decide.2 (putCF_inj ha.c hb.c (by rw [e1] at h1; exact h1) (by rw [e2] at h2; exact h2))
  have L := Lib.hid (And.intro h1 (And.intro h2 (And.intro hr hinj)))
  obtain ⟨b0, b1⟩ := two_box w (.cells (cc a).toArray 31) (.cells (cc b).toArray 31)
  have hS0 : StY w a b ((w.alloc (.cells (cc a).toArray 31)).alloc (.cells (cc b).toArray 31)) := StY.of ha.c.p hb.c.p (belA ((Below.refl _ _).alloc (Nat.le_refl _) _) _ (Nat.le_refl _)) b0 b1
  have dr : (r == r) = true := beq_self_eq_true _
  have dr2 : (!(r == r)) = false := by rw [dr]; rfl
  clear h1 h2 b0 b1 hr hinj
  go_enter Try.func5, Try.ntmps5
  go_wp2_with (fail)
  refine (put06_is (ha.below hS0.1) L.out.1).mono ?_
  rintro e w1 ⟨A1, c1, rfl, ho1, hb1⟩
  have hS1 := hS0.below ha.c.p hb.c.p hb1
  have r1 := ho1.rd
  clear ho1 hb1 hS0
  go_wp2_with (fail)
  refine (put06_is (hb.below hS1.1) L.out.2.1).mono ?_
  rintro e w2 ⟨A2, c2, rfl, ho2, hb2⟩
  have hS2 := hS1.below ha.c.p hb.c.p hb2
  have r2 := ho2.rd
  have r1 := r1.below hb2
  have hS3 := hS2.drew ha.c.p hb.c.p
  clear ho2 hb2 hS1 hS2
  go_wp2_with (fail)
  go_region_held3 (fun w' => StY w a b w') (first | exact hT3 | exact hT2 | exact hT1 | exact hS3)
    (first
      | (go_at_call 19; (with_reducible refine (same06_is (a := a) (b := b) (ha.below hS3.1) (hb.below hS3.1) L.out.2.2.1).mono ?_); rintro e w4 ⟨rfl, hb4⟩; have hT1 := hS3.below ha.c.p hb.c.p hb4; have s1 := r1.drew.below hb4; have s2 := r2.drew.below hb4)
      | (go_at_call 11; (with_reducible refine (rsame06_is (a := a) (b := b) (ha.below hT1.1) (hb.below hT1.1) L.out.2.2.1).mono ?_); rintro e w5 ⟨rfl, hb5⟩; have hT2 := hT1.below ha.c.p hb.c.p hb5; have s1 := s1.below hb5; have s2 := s2.below hb5)
      | (go_at_call 19; (with_reducible refine (same06_is (a := a) (b := a) (r := true) (ha.below hT2.1) (ha.below hT2.1) (decide_eq_true rfl)).mono ?_); rintro e w6 ⟨rfl, hb6⟩; have hT3 := hT2.below ha.c.p hb.c.p hb6; have s1 := s1.below hb6; have s2 := s2.below hb6))
  rename_i hHeldX
  clear hHeldX hT1 hT2 hb4 hb5 hb6 r1 r2 hS3
  by_cases e1 : q1 = 0
  · have d1 : (q1 != 0) = false := by rw [bne_eq_false_iff_eq]; exact e1
    by_cases e2 : q2 = 0
    · have d2 : (q2 != 0) = false := by rw [bne_eq_false_iff_eq]; exact e2
      have I := Lib.hid (L.out.2.2.2 e1 e2)
      clear e1 e2
      go_wp2_with (fail)
      refine (same06_is (a := a) (b := b) (ha.below hT3.1) (hb.below hT3.1) L.out.2.2.1).mono ?_
      rintro e w7 ⟨rfl, hb7⟩
      have hT4 := hT3.below ha.c.p hb.c.p hb7
      have t1 := s1.below hb7
      have t2 := s2.below hb7
      clear hb7 hT3 s1 s2
      go_wp2_with (fail)
      refine (same_is t1 t2 (by omega) I.out).mono ?_
      rintro e w8 ⟨rfl, hb8⟩
      have hT5 := hT4.below ha.c.p hb.c.p hb8
      clear hb8 hT4 t1 t2
      go_wp2_with (fail)
      refine (works06_any _).mono ?_
      rintro e w9 ⟨rfl, hb9⟩
      have hbl := bThen hT5.1 hb9
      clear hb9
      go_wp2_with (fail)
      go_ret
      exact ⟨rfl, hbl⟩
    · have d2 : (q2 != 0) = true := by rw [bne_iff_ne]; exact e2
      clear e1 e2
      go_wp2_with (fail)
      refine (works06_any _).mono ?_
      rintro e w9 ⟨rfl, hb9⟩
      have hbl := bThen hT3.1 hb9
      clear hb9
      go_wp2_with (fail)
      go_ret
      exact ⟨rfl, hbl⟩
  · have d1 : (q1 != 0) = true := by rw [bne_iff_ne]; exact e1
    clear e1
    go_wp2_with (fail)
    refine (works06_any _).mono ?_
    rintro e w9 ⟨rfl, hb9⟩
    have hbl := bThen hT3.1 hb9
    clear hb9
    go_wp2_with (fail)
    go_ret
    exact ⟨rfl, hbl⟩
end Go.Proofs.Ytejablcdpakgoaa
