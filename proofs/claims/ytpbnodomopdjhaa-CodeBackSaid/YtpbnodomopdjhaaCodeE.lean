/- What Pushes and Same answer, in the program and in the reference. -/
import Derived.Test.YtpbnodomopdjhaaCodeD
namespace Go.Proofs.Ytpbnodomopdjhaa
open Go.RowKit Go.Proofs En Cd
set_option linter.unusedVariables false
set_option linter.unusedSimpArgs false

set_option maxHeartbeats 400000 in
theorem pushes_any (B : Option Addr) (m c : Nat) (hs : List Hd) (w : World) (hb : ArgS w B m c hs) :
    Calls Try.prog 39 #[.slice B m c] w fun e w' => e = .returned (.bool (!(hs.any fun x => x.op != 1))) ∧ Below w.heap.size w w' := by
  have C := Lib.hid (contains_other B m c hs w hb)
  obtain ⟨r, hr⟩ : ∃ r, (hs.any fun x => x.op != 1) = r := ⟨_, rfl⟩
  rw [hr] at C ⊢
  clear hr
  go_enter Try.func39, Try.ntmps39
  go_wp2_with (fail)
  refine C.out.mono ?_
  rintro e w' ⟨rfl, hbel⟩
  go_wp2_with (fail)
  go_ret
  exact ⟨rfl, hbel⟩

set_option maxHeartbeats 400000 in
theorem rpushes_any (B : Option Addr) (m c : Nat) (hs : List Hd) (w : World) (hb : ArgS w B m c hs) :
    Calls Try.prog 40 #[.slice B m c] w fun e w' => e = .returned (.bool (!(hs.any fun x => x.op != 1))) ∧ Below w.heap.size w w' := by
  have hlen := hb.len
  have ML := Lib.hid hb.length
  go_enter Try.func40, Try.ntmps40
  go_wp2_with (fail)
  go_loop [3] (fun i => ∃ j : Nat, j ≤ m ∧ i = .int .i64 j ∧ (hs.take j).any (fun x => x.op != 1) = false) (fun i => m - (intOf i).toNat)
  case atStart => exact ⟨0, by omega, rfl, by simp⟩
  case round =>
    obtain ⟨j, hj, rfl, hno⟩ := hrel
    have NO := Lib.hid hno
    clear hno
    by_cases hlt : j < m
    · obtain ⟨ad, x, rfl, hx, hok, hbk, hc0, hc1, hc2⟩ := hb.at_ hlt
      obtain ⟨r, hr⟩ : ∃ r, (x.op != 1) = r := ⟨_, rfl⟩
      have X := Lib.hid hx
      clear hx hok
      cases r with
      | true =>
        go_wp2_with (fail)
        go_ret
        rw [any_of_get (fun x => x.op != 1) hs j x X.out hr]
        exact ⟨rfl, Below.refl _ _⟩
      | false =>
        have R := Lib.hid hr
        go_wp2_with (fail)
        go_round
        case rel => exact ⟨j + 1, by omega, by go_num, any_take_snoc _ hs j x X.out NO.out R.out⟩
        case measure => simp [intOf]; omega
    · obtain rfl : j = m := by omega
      go_wp2_with (fail)
      go_ret
      have e := NO.out
      rw [List.take_of_length_le (by rw [ML.out]; exact Nat.le_refl _)] at e
      rw [e]
      exact ⟨rfl, Below.refl _ _⟩

theorem st_eq (x y : Hd) : decide (x.st = y.st) = (x.op == y.op && decide (x.p = y.p)) := by
  unfold Hd.st
  by_cases h1 : x.op = y.op
  · by_cases h2 : x.p = y.p <;> simp [h1, h2]
  · simp [h1]

set_option maxHeartbeats 400000 in
theorem same1_any (x y : Hd) (w : World) (hx : x.ok w) (hy : y.ok w) :
    Calls Try.prog 50 #[.agg #[.int .u8 x.op, .slice x.A x.n x.c], .agg #[.int .u8 y.op, .slice y.A y.n y.c]] w fun e w' => e = .returned (.bool (decide (x.st = y.st))) ∧ Below w.heap.size w w' := by
  rw [st_eq]
  have C := Lib.hid fun (w' : World) (h : Below w.heap.size w w') => equal_any x.A x.n x.c x.p y.A y.n y.c y.p w' (hx.2.below h).rd (hy.2.below h).rd hx.2.isB hy.2.isB
  obtain ⟨r, hr⟩ : ∃ r, decide (x.p = y.p) = r := ⟨_, rfl⟩
  rw [hr] at C ⊢
  clear hr
  have hbel : ∀ o1 o2, Below w.heap.size w ((w.alloc o1).alloc o2) := fun o1 o2 => ((Below.refl w.heap.size w).alloc (Nat.le_refl _) o1).alloc (by simp) o2
  by_cases h1 : x.op = y.op
  · have t1 : (x.op == y.op) = true := by rw [beq_iff_eq]; exact h1
    rw [t1]
    go_enter Try.func50, Try.ntmps50
    go_wp2_with (fail)
    refine (C.out _ (hbel _ _)).mono ?_
    rintro e w' ⟨rfl, rfl⟩
    go_wp2_with (fail)
    go_ret
    exact ⟨rfl, hbel _ _⟩
  · have t1 : (x.op == y.op) = false := by rw [beq_eq_false_iff_ne]; exact h1
    rw [t1]
    go_enter Try.func50, Try.ntmps50
    go_wp2_with (fail)
    go_ret
    exact ⟨rfl, hbel _ _⟩

theorem sts_take_eq {hs gs : List Hd} {j : Nat} {x y : Hd} (hx : hs[j]? = some x) (hy : gs[j]? = some y) (h : sts (hs.take j) = sts (gs.take j)) (he : x.st = y.st) : sts (hs.take (j + 1)) = sts (gs.take (j + 1)) := by
  rw [sts_take_snoc hs j x hx, sts_take_snoc gs j y hy, h, he]
theorem sts_ne {hs gs : List Hd} {j : Nat} {x y : Hd} (hx : hs[j]? = some x) (hy : gs[j]? = some y) (he : x.st ≠ y.st) : sts hs ≠ sts gs := by
  intro h
  apply he
  have h1 : (sts hs)[j]? = some x.st := by unfold sts; rw [List.getElem?_map, hx]; rfl
  have h2 : (sts gs)[j]? = some y.st := by unfold sts; rw [List.getElem?_map, hy]; rfl
  rw [h, h2] at h1
  exact (Option.some.inj h1).symm
theorem sts_len (hs : List Hd) : (sts hs).length = hs.length := by unfold sts; rw [List.length_map]

set_option maxRecDepth 10000 in
set_option maxHeartbeats 1000000 in
theorem equalFunc_any (A : Option Addr) (n c : Nat) (hs : List Hd) (B : Option Addr) (m d : Nat) (gs : List Hd) (w : World) (ha : ArgS w A n c hs) (hb : ArgS w B m d gs) :
    Calls Try.prog 49 #[.slice A n c, .slice B m d, .func (Fn.func 50) #[] #[]] w fun e w' => e = .returned (.bool (decide (sts hs = sts gs))) ∧ Below w.heap.size w w' := by
  have hlen := ha.len
  have hla := ha.length
  have hlb := hb.length
  by_cases hnm : n = m
  · subst hnm
    have L := Lib.hid (And.intro hla hlb)
    clear hla hlb
    go_enter Try.func49, Try.ntmps49
    go_wp2_with (fail)
    go_loopw [17] (fun i wr => ∃ j : Nat, j ≤ n ∧ i = .int .i64 j ∧ sts (hs.take j) = sts (gs.take j) ∧ Below w.heap.size w wr) (fun i _ => n - (intOf i).toNat)
    case atStart => exact ⟨0, by omega, rfl, rfl, Below.refl _ _⟩
    case round =>
      obtain ⟨j, hj, rfl, heq, hbel⟩ := hrel
      have E := Lib.hid heq
      clear heq
      by_cases hlt : j < n
      · obtain ⟨a, x, rfl, hx, hokx, hbx, hx0, hx1, hx2⟩ := (ha.below hbel).at_ hlt
        obtain ⟨b, y, rfl, hy, hoky, hby, hy0, hy1, hy2⟩ := (hb.below hbel).at_ hlt
        have hox := ha.ok x (List.mem_of_getElem? hx)
        have hoy := hb.ok y (List.mem_of_getElem? hy)
        have hz := hbel.size
        have C := Lib.hid fun (w' : World) (h : Below w.heap.size w w') => same1_any x y w' ⟨hox.1, hox.2.below h⟩ ⟨hoy.1, hoy.2.below h⟩
        obtain ⟨r, hr⟩ : ∃ r, decide (x.st = y.st) = r := ⟨_, rfl⟩
        rw [hr] at C
        have X := Lib.hid (And.intro hx (And.intro hy hr))
        have hyb0 : ∀ o, (wr.alloc o).cell? (b.add (j * 2)) = some (.int .u8 y.op) := fun o => by rw [← hy0]; exact World.cell?_of_block (Below.heap_alloc _ _ _ (by rw [block_add]; exact hby))
        have hyb1 : ∀ o, (wr.alloc o).cell? ⟨(b.add (j * 2)).block, (b.add (j * 2)).off + 1, none⟩ = some (.slice y.A y.n y.c) := fun o => by rw [← hy2]; exact World.cell?_of_block (Below.heap_alloc _ _ _ (by show (b.add (j * 2)).block < _; rw [block_add]; exact hby))
        clear hx hy hr hokx hoky hox hoy
        go_wp2_with (fail)
        refine (C.out _ (belA (belA hbel _ (Nat.le_refl _)) _ (Nat.le_refl _))).mono ?_
        rintro e w2 ⟨rfl, hb2⟩
        have hbel2 := (belA (belA hbel _ (Nat.le_refl _)) _ (Nat.le_refl _)).trans (hb2.mono (by simp; omega))
        have hz2 := hbel2.size
        clear hb2 C hyb0 hyb1
        cases r with
        | false =>
          go_wp2_with (fail)
          go_ret
          have hne := sts_ne X.out.1 X.out.2.1 (of_decide_eq_false X.out.2.2)
          rw [decide_eq_false hne]
          exact ⟨rfl, hbel2⟩
        | true =>
          have H2 := Lib.hid hbel2
          clear hbel2 hbel hx0 hx1 hx2 hy0 hy1 hy2
          go_wp2_with (fail)
          go_roundw
          case rel => exact ⟨j + 1, by omega, by go_num, sts_take_eq X.out.1 X.out.2.1 E.out (of_decide_eq_true X.out.2.2), H2.out⟩
          case measure => simp [intOf]; omega
      · obtain rfl : j = n := by omega
        go_wp2_with (fail)
        go_ret
        have e := E.out
        rw [List.take_of_length_le (by rw [L.out.1]; exact Nat.le_refl _), List.take_of_length_le (by rw [L.out.2]; exact Nat.le_refl _)] at e
        rw [decide_eq_true e]
        exact ⟨rfl, hbel⟩
  · have hne : ¬ (sts hs = sts gs) := by
      intro e
      have := congrArg List.length e
      rw [sts_len, sts_len] at this
      omega
    have d1 : ((n : Int) != m) = true := by rw [bne_iff_ne]; omega
    have H := Lib.hid hne
    clear hne hnm hla hlb
    go_enter Try.func49, Try.ntmps49
    go_wp2_with (fail)
    go_ret
    rw [decide_eq_false H.out]
    exact ⟨rfl, Below.refl _ _⟩
set_option maxHeartbeats 400000 in
theorem csame_any (A : Option Addr) (n c : Nat) (hs : List Hd) (B : Option Addr) (m d : Nat) (gs : List Hd) (w : World) (ha : ArgS w A n c hs) (hb : ArgS w B m d gs) :
    Calls Try.prog 37 #[.slice A n c, .slice B m d] w fun e w' => e = .returned (.bool (decide (sts hs = sts gs))) ∧ Below w.heap.size w w' := by
  have C := Lib.hid (equalFunc_any A n c hs B m d gs w ha hb)
  obtain ⟨r, hr⟩ : ∃ r, decide (sts hs = sts gs) = r := ⟨_, rfl⟩
  rw [hr] at C ⊢
  clear hr
  go_enter Try.func37, Try.ntmps37
  go_wp2_with (fail)
  refine C.out.mono ?_
  rintro e w' ⟨rfl, hbel⟩
  go_wp2_with (fail)
  go_ret
  exact ⟨rfl, hbel⟩
end Go.Proofs.Ytpbnodomopdjhaa
