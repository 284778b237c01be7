/- Scripts in memory; what the tests of one step answer. -/
import Derived.Test.YtpbnodomopdjhaaEndsG
import Derived.Test.YtpbnodomopdjhaaBytes
import Derived.Test.YtpbnodomopdjhaaCodeM
namespace Go.Proofs.Ytpbnodomopdjhaa
open Go.RowKit Go.Proofs En Cd
set_option linter.unusedVariables false
set_option linter.unusedSimpArgs false

/-- a step as it lies in memory: its kind, its slice, what the slice reads as -/
structure Hd where
  op : Int
  A : Option Addr
  n : Nat
  c : Nat
  p : List Int
def Hd.st (h : Hd) : Stp := (h.op, h.p)
def Hd.cells (h : Hd) : List Value := [.int .u8 h.op, .slice h.A h.n h.c]
def sts (hs : List Hd) : List Stp := hs.map Hd.st
def hcells (hs : List Hd) : List Value := hs.flatMap Hd.cells
def Hd.ok (w : World) (h : Hd) : Prop := (0 ≤ h.op ∧ h.op ≤ 255) ∧ Arg w h.A h.n h.c h.p

theorem hcells_length (hs : List Hd) : (hcells hs).length = hs.length * 2 := by
  induction hs with
  | nil => rfl
  | cons h hs ih =>
    show (h.cells ++ hcells hs).length = _
    rw [List.length_append, ih, List.length_cons]
    show 2 + _ = _
    omega
theorem hcells_get (hs : List Hd) (i : Nat) (h : Hd) (hi : hs[i]? = some h) : (hcells hs)[i * 2]? = some (.int .u8 h.op) ∧ (hcells hs)[i * 2 + 1]? = some (.slice h.A h.n h.c) := by
  induction hs generalizing i with
  | nil => simp at hi
  | cons x hs ih =>
    cases i with
    | zero =>
      simp at hi
      subst hi
      exact ⟨rfl, rfl⟩
    | succ i =>
      have := ih i (by simpa using hi)
      have e : hcells (x :: hs) = Value.int .u8 x.op :: Value.slice x.A x.n x.c :: hcells hs := rfl
      rw [e, show (i + 1) * 2 = i * 2 + 1 + 1 from by omega, show i * 2 + 1 + 1 + 1 = (i * 2 + 1) + 1 + 1 from rfl]
      simpa using this
theorem hcells_append (xs ys : List Hd) : hcells (xs ++ ys) = hcells xs ++ hcells ys := by unfold hcells; rw [List.flatMap_append]
theorem sts_append (xs ys : List Hd) : sts (xs ++ ys) = sts xs ++ sts ys := by unfold sts; rw [List.map_append]

/-- what a function is told of steps that it is handed -/
structure ArgS (w : World) (B : Option Addr) (m c : Nat) (hs : List Hd) : Prop where
  rd : Rd w 2 B m (hcells hs)
  ok : ∀ h ∈ hs, h.ok w
  cap : m ≤ c
  top : c ≤ maxLen
  len : m ≤ 4398046511104
theorem ArgS.length {w : World} {B : Option Addr} {m c : Nat} {hs : List Hd} (h : ArgS w B m c hs) : hs.length = m := by
  have := h.rd.1
  rw [hcells_length] at this
  omega
theorem ArgS.below {w w' : World} {B : Option Addr} {m c : Nat} {hs : List Hd} (h : ArgS w B m c hs) (hb : Below w.heap.size w w') : ArgS w' B m c hs :=
  ⟨h.rd.below hb, fun x hx => ⟨(h.ok x hx).1, (h.ok x hx).2.below hb⟩, h.cap, h.top, h.len⟩
theorem ArgS.at_ {w : World} {B : Option Addr} {m c : Nat} {hs : List Hd} (h : ArgS w B m c hs) {i : Nat} (hi : i < m) :
    ∃ ad x, B = some ad ∧ hs[i]? = some x ∧ x.ok w ∧ ad.block < w.heap.size ∧ w.cell? (ad.add (i * 2)) = some (.int .u8 x.op) ∧ w.cell? (ad.add (i * 2 + 1)) = some (.slice x.A x.n x.c) ∧ w.cell? ⟨(ad.add (i * 2)).block, (ad.add (i * 2)).off + 1, none⟩ = some (.slice x.A x.n x.c) := by
  obtain ⟨ad, e, hb, hc⟩ := h.rd.at_ hi
  have hl := h.length
  have hx : hs[i]? = some hs[i] := List.getElem?_eq_getElem (by omega)
  obtain ⟨g0, g1⟩ := hcells_get hs i hs[i] hx
  have c0 := hc 0 (by omega)
  have c1 := hc 1 (by omega)
  rw [Nat.add_zero] at c0
  have c1' := c1.trans g1
  rw [← add_add] at c1'
  exact ⟨ad, hs[i], e, hx, h.ok _ (List.getElem_mem ..), hb, c0.trans g0, c1.trans g1, c1'⟩

/-- a whole struct, or array, is read -/
theorem run_loadVar_at {P : Program} (w : World) (ad : Addr) (ty : TypeId) (cs : List Value) (d : TypeDesc)
    (hu : P.underlying ty = some d) (hd : (match d with | .struct _ | .array _ _ => true | _ => false) = true) (hi : (P.info? ty).map (·.size) = some cs.length)
    (hc : ∀ j v, cs[j]? = some v → w.cell? (ad.add j) = some v) : (loadVar ty ad).run P w = .ok (.agg cs.toArray) w := by
  have hl : (loadCells ad cs.length).run P w = .ok cs.toArray w := run_loadCells_list (P := P) w ad cs hc
  cases hq : P.info? ty with
  | none => simp [hq] at hi
  | some i =>
    have hs : i.size = cs.length := by simpa [hq] using hi
    have hagg : (isAgg ty).run P w = .ok true w := by
      unfold isAgg
      rw [Sem.run_bind, run_underlying hu w]
      cases d <;> simp_all
    simp [loadVar, Sem.run_bind, hagg, sizeOf, typeInfo, hq, hs, hl]
theorem info_step : (Try.prog.info? 55).map (·.size) = some 2 := by kernel_rfl
theorem load_step (w : World) (ad : Addr) (i : Nat) (h : Hd) (h0 : w.cell? (ad.add i) = some (.int .u8 h.op)) (h1 : w.cell? (ad.add (i + 1)) = some (.slice h.A h.n h.c)) :
    (loadVar 55 (ad.add i)).run Try.prog w = .ok (.agg #[.int .u8 h.op, .slice h.A h.n h.c]) w := by
  refine run_loadVar_at w (ad.add i) 55 [.int .u8 h.op, .slice h.A h.n h.c] _ Try.underlying55 rfl info_step ?_
  intro j v hj
  rw [add_add]
  match j, hj with
  | 0, hj => simp at hj; subst hj; exact h0
  | 1, hj => simp at hj; subst hj; exact h1
  | j + 2, hj => simp at hj

/-- may a step be, by its kind and its length -/
def mayB (op : Int) (n : Nat) : Bool := if op = 1 then decide (n ≤ 3000) else decide (2 ≤ op ∧ op ≤ 20 ∧ n = 0)
theorem mayB_of {w : World} {h : Hd} (hk : h.ok w) : mayB h.op h.n = mayF h.st := by
  have hl := hk.2.rd.len
  unfold mayB mayF Hd.st
  rw [hl]

set_option maxHeartbeats 400000 in
theorem may_any (op : Int) (A : Option Addr) (n c : Nat) (w : World) (ho : 0 ≤ op ∧ op ≤ 255) (hn : n ≤ 9223372036854775807) :
    Calls Try.prog 48 #[.agg #[.int .u8 op, .slice A n c]] w fun e w' => e = .returned (.bool (mayB op n)) ∧ Below w.heap.size w w' := by
  by_cases h1 : op = 1
  · subst h1
    have H : Hid (mayB 1 n = decide ((n : Int) ≤ 3000)) := Lib.hid ((if_pos rfl).trans (decide_eq_decide.2 (by omega)))
    go_enter Try.func48, Try.ntmps48
    go_wp2_with (fail)
    go_ret
    rw [H.out]
    exact ⟨rfl, (Below.refl _ _).alloc (Nat.le_refl _) _⟩
  · have t1 : (op == 1) = false := by rw [beq_eq_false_iff_ne]; exact h1
    have H : Hid (mayB op n = decide (2 ≤ op ∧ op ≤ 20 ∧ n = 0)) := Lib.hid (if_neg h1)
    by_cases h2 : 2 ≤ op
    · have t2 : decide (op ≥ 2) = true := decide_eq_true h2
      by_cases h3 : op ≤ 20
      · have t3 : decide (op ≤ 20) = true := decide_eq_true h3
        have H2 : Hid (mayB op n = decide (n = 0)) := Lib.hid (by rw [H.out]; simp [h2, h3])
        clear h1 h2 h3 H
        by_cases h4 : n = 0
        · subst h4
          go_enter Try.func48, Try.ntmps48
          go_wp2_with (fail)
          go_ret
          rw [H2.out]
          exact ⟨rfl, (Below.refl _ _).alloc (Nat.le_refl _) _⟩
        · have t4 : (n == 0) = false := by rw [beq_eq_false_iff_ne]; exact h4
          have t5 : ((n : Int) == 0) = false := by rw [beq_eq_false_iff_ne]; omega
          have t6 : decide (n = 0) = false := decide_eq_false h4
          rw [t6] at H2
          go_enter Try.func48, Try.ntmps48
          go_wp2_with (fail)
          go_ret
          rw [H2.out]
          exact ⟨rfl, (Below.refl _ _).alloc (Nat.le_refl _) _⟩
      · have t3 : decide (op ≤ 20) = false := decide_eq_false h3
        have H2 : Hid (mayB op n = false) := Lib.hid (by rw [H.out]; simp [h2, h3])
        clear h1 h2 h3 H
        go_enter Try.func48, Try.ntmps48
        go_wp2_with (fail)
        go_ret
        rw [H2.out]
        exact ⟨rfl, (Below.refl _ _).alloc (Nat.le_refl _) _⟩
    · have t2 : decide (op ≥ 2) = false := decide_eq_false h2
      have H2 : Hid (mayB op n = false) := Lib.hid (by rw [H.out]; simp [h2])
      clear h1 h2 H
      go_enter Try.func48, Try.ntmps48
      go_wp2_with (fail)
      go_ret
      rw [H2.out]
      exact ⟨rfl, (Below.refl _ _).alloc (Nat.le_refl _) _⟩

set_option maxHeartbeats 400000 in
theorem rmay_any (op : Int) (A : Option Addr) (n c : Nat) (w : World) (ho : 0 ≤ op ∧ op ≤ 255) (hn : n ≤ 9223372036854775807) :
    Calls Try.prog 52 #[.agg #[.int .u8 op, .slice A n c]] w fun e w' => e = .returned (.bool (mayB op n)) ∧ Below w.heap.size w w' := by
  by_cases h1 : op = 1
  · subst h1
    have H : Hid (mayB 1 n = decide ((n : Int) ≤ 3000)) := Lib.hid ((if_pos rfl).trans (decide_eq_decide.2 (by omega)))
    go_enter Try.func52, Try.ntmps52
    go_wp2_with (fail)
    go_ret
    rw [H.out]
    exact ⟨rfl, (Below.refl _ _).alloc (Nat.le_refl _) _⟩
  · have t1 : (op == 1) = false := by rw [beq_eq_false_iff_ne]; exact h1
    have H : Hid (mayB op n = decide (2 ≤ op ∧ op ≤ 20 ∧ n = 0)) := Lib.hid (if_neg h1)
    by_cases h2 : 2 ≤ op
    · have t2 : decide (op ≥ 2) = true := decide_eq_true h2
      by_cases h3 : op ≤ 20
      · have t3 : decide (op ≤ 20) = true := decide_eq_true h3
        have H2 : Hid (mayB op n = decide (n = 0)) := Lib.hid (by rw [H.out]; simp [h2, h3])
        clear h1 h2 h3 H
        by_cases h4 : n = 0
        · subst h4
          go_enter Try.func52, Try.ntmps52
          go_wp2_with (fail)
          go_ret
          rw [H2.out]
          exact ⟨rfl, (Below.refl _ _).alloc (Nat.le_refl _) _⟩
        · have t4 : (n == 0) = false := by rw [beq_eq_false_iff_ne]; exact h4
          have t5 : ((n : Int) == 0) = false := by rw [beq_eq_false_iff_ne]; omega
          have t6 : decide (n = 0) = false := decide_eq_false h4
          rw [t6] at H2
          go_enter Try.func52, Try.ntmps52
          go_wp2_with (fail)
          go_ret
          rw [H2.out]
          exact ⟨rfl, (Below.refl _ _).alloc (Nat.le_refl _) _⟩
      · have t3 : decide (op ≤ 20) = false := decide_eq_false h3
        have H2 : Hid (mayB op n = false) := Lib.hid (by rw [H.out]; simp [h2, h3])
        clear h1 h2 h3 H
        go_enter Try.func52, Try.ntmps52
        go_wp2_with (fail)
        go_ret
        rw [H2.out]
        exact ⟨rfl, (Below.refl _ _).alloc (Nat.le_refl _) _⟩
    · have t2 : decide (op ≥ 2) = false := decide_eq_false h2
      have H2 : Hid (mayB op n = false) := Lib.hid (by rw [H.out]; simp [h2])
      clear h1 h2 H
      go_enter Try.func52, Try.ntmps52
      go_wp2_with (fail)
      go_ret
      rw [H2.out]
      exact ⟨rfl, (Below.refl _ _).alloc (Nat.le_refl _) _⟩
end Go.Proofs.Ytpbnodomopdjhaa
