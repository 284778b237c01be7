/- The searches for a step: ContainsFunc, IndexFunc with the program's two tests. -/
import Derived.Test.YtpbnodomopdjhaaCodeA
namespace Go.Proofs.Ytpbnodomopdjhaa
open Go.RowKit Go.Proofs En Cd
set_option linter.unusedVariables false
set_option linter.unusedSimpArgs false

set_option maxHeartbeats 400000 in
theorem bad_any (op : Int) (A : Option Addr) (n c : Nat) (w : World) (ho : 0 ≤ op ∧ op ≤ 255) (hn : n ≤ 9223372036854775807) :
    Calls Try.prog 47 #[.agg #[.int .u8 op, .slice A n c]] w fun e w' => e = .returned (.bool (!mayB op n)) ∧ Below w.heap.size w w' := by
  obtain ⟨r, hr⟩ : ∃ r, mayB op n = r := ⟨_, rfl⟩
  have C := Lib.hid (fun w' => may_any op A n c w' ho hn)
  rw [hr] at C ⊢
  clear hr
  go_enter Try.func47, Try.ntmps47
  go_wp2_with (fail)
  refine (C.out _).mono ?_
  rintro e w' ⟨rfl, hb⟩
  have hbel : Below w.heap.size w w' := ((Below.refl w.heap.size w).alloc (Nat.le_refl _) _).trans (hb.mono (by simp))
  have hz := hbel.size
  clear hb
  go_wp2_with (fail)
  go_ret
  exact ⟨rfl, hbel⟩

set_option maxHeartbeats 400000 in
theorem other_any (op : Int) (A : Option Addr) (n c : Nat) (w : World) :
    Calls Try.prog 53 #[.agg #[.int .u8 op, .slice A n c]] w fun e w' => e = .returned (.bool (op != 1)) ∧ Below w.heap.size w w' := by
  go_enter Try.func53, Try.ntmps53
  go_wp2_with (fail)
  go_ret
  exact ⟨rfl, (Below.refl _ _).alloc (Nat.le_refl _) _⟩

theorem any_take_snoc (q : Hd → Bool) (hs : List Hd) (j : Nat) (x : Hd) (hx : hs[j]? = some x) (h : (hs.take j).any q = false) (hq : q x = false) : (hs.take (j + 1)).any q = false := by
  have hj := (List.getElem?_eq_some_iff.1 hx).1
  rw [List.take_succ_eq_append_getElem hj, List.any_append, h]
  have : hs[j] = x := by rw [List.getElem?_eq_getElem hj] at hx; exact Option.some.inj hx
  rw [this]
  simp [hq]
theorem any_of_get (q : Hd → Bool) (hs : List Hd) (j : Nat) (x : Hd) (hx : hs[j]? = some x) (hq : q x = true) : hs.any q = true :=
  List.any_eq_true.2 ⟨x, List.mem_of_getElem? hx, hq⟩

set_option maxHeartbeats 600000 in
theorem index_bad (B : Option Addr) (m c : Nat) (hs : List Hd) (w : World) (hb : ArgS w B m c hs) :
    Calls Try.prog 55 #[.slice B m c, .func (Fn.func 47) #[] #[]] w fun e w' => ∃ r : Int, e = .returned (.int .i64 r) ∧ decide (r ≥ 0) = hs.any (fun x => !mayB x.op x.n) ∧ Below w.heap.size w w' := by
  have hlen := hb.len
  have hml := hb.length
  have ML := Lib.hid hml
  clear hml
  go_enter Try.func55, Try.ntmps55
  go_wp2_with (fail)
  go_loopw [8] (fun i wr => ∃ j : Nat, j ≤ m ∧ i = .int .i64 j ∧ (hs.take j).any (fun x => !mayB x.op x.n) = false ∧ Below w.heap.size w wr) (fun i _ => m - (intOf i).toNat)
  case atStart => exact ⟨0, by omega, rfl, by simp, Below.refl _ _⟩
  case round =>
    obtain ⟨j, hj, rfl, hno, hbel⟩ := hrel
    have NO := Lib.hid hno
    clear hno
    by_cases hlt : j < m
    · obtain ⟨ad, x, rfl, hx, hok, hbk, hc0, hc1, hc2⟩ := (hb.below hbel).at_ hlt
      have hop := hok.1
      have hxl := hok.2.len
      have hxc := hok.2.cap
      have hz := hbel.size
      obtain ⟨r, hr⟩ : ∃ r, (!mayB x.op x.n) = r := ⟨_, rfl⟩
      have X := Lib.hid (And.intro hx hr)
      have C := Lib.hid (fun w' => bad_any x.op x.A x.n x.c w' hop (by omega))
      rw [hr] at C
      clear hx hr hok
      go_wp2_with (fail)
      refine (C.out _).mono ?_
      rintro e w2 ⟨rfl, hb2⟩
      have hbel := bThen hbel hb2
      have hz := hbel.size
      clear hb2 C
      cases r with
      | true =>
        go_wp2_with (fail)
        go_ret
        exact ⟨j, rfl, by rw [any_of_get (fun x => !mayB x.op x.n) hs j x X.out.1 X.out.2]; exact decide_eq_true (by omega), hbel⟩
      | false =>
        go_wp2_with (fail)
        go_roundw
        case rel => exact ⟨j + 1, by omega, by go_num, any_take_snoc _ hs j x X.out.1 NO.out X.out.2, hbel⟩
        case measure => simp [intOf]; omega
    · obtain rfl : j = m := by omega
      go_wp2_with (fail)
      go_ret
      have e := NO.out
      rw [List.take_of_length_le (by rw [ML.out]; exact Nat.le_refl _)] at e
      exact ⟨-1, rfl, by rw [e]; rfl, hbel⟩

set_option maxHeartbeats 400000 in
theorem contains_bad (B : Option Addr) (m c : Nat) (hs : List Hd) (w : World) (hb : ArgS w B m c hs) :
    Calls Try.prog 46 #[.slice B m c, .func (Fn.func 47) #[] #[]] w fun e w' => e = .returned (.bool (hs.any (fun x => !mayB x.op x.n))) ∧ Below w.heap.size w w' := by
  have C := Lib.hid (index_bad B m c hs w hb)
  obtain ⟨r, hr⟩ : ∃ r, hs.any (fun x => !mayB x.op x.n) = r := ⟨_, rfl⟩
  rw [hr] at C ⊢
  clear hr
  go_enter Try.func46, Try.ntmps46
  go_wp2_with (fail)
  refine C.out.mono ?_
  rintro e w' ⟨v, rfl, hv, hbel⟩
  have V := Lib.hid hv
  clear hv
  go_wp2_with (fail)
  go_ret
  rw [← V.out]
  exact ⟨rfl, hbel⟩

set_option maxHeartbeats 600000 in
theorem index_other (B : Option Addr) (m c : Nat) (hs : List Hd) (w : World) (hb : ArgS w B m c hs) :
    Calls Try.prog 55 #[.slice B m c, .func (Fn.func 53) #[] #[]] w fun e w' => ∃ r : Int, e = .returned (.int .i64 r) ∧ decide (r ≥ 0) = hs.any (fun x => x.op != 1) ∧ Below w.heap.size w w' := by
  have hlen := hb.len
  have hml := hb.length
  have ML := Lib.hid hml
  clear hml
  go_enter Try.func55, Try.ntmps55
  go_wp2_with (fail)
  go_loopw [8] (fun i wr => ∃ j : Nat, j ≤ m ∧ i = .int .i64 j ∧ (hs.take j).any (fun x => x.op != 1) = false ∧ Below w.heap.size w wr) (fun i _ => m - (intOf i).toNat)
  case atStart => exact ⟨0, by omega, rfl, by simp, Below.refl _ _⟩
  case round =>
    obtain ⟨j, hj, rfl, hno, hbel⟩ := hrel
    have NO := Lib.hid hno
    clear hno
    by_cases hlt : j < m
    · obtain ⟨ad, x, rfl, hx, hok, hbk, hc0, hc1, hc2⟩ := (hb.below hbel).at_ hlt
      have hop := hok.1
      have hxl := hok.2.len
      have hxc := hok.2.cap
      have hz := hbel.size
      obtain ⟨r, hr⟩ : ∃ r, (x.op != 1) = r := ⟨_, rfl⟩
      have X := Lib.hid (And.intro hx hr)
      have C := Lib.hid (fun w' => other_any x.op x.A x.n x.c w')
      rw [hr] at C
      clear hx hr hok
      go_wp2_with (fail)
      refine (C.out _).mono ?_
      rintro e w2 ⟨rfl, hb2⟩
      have hbel := bThen hbel hb2
      have hz := hbel.size
      clear hb2 C
      cases r with
      | true =>
        go_wp2_with (fail)
        go_ret
        exact ⟨j, rfl, by rw [any_of_get (fun x => x.op != 1) hs j x X.out.1 X.out.2]; exact decide_eq_true (by omega), hbel⟩
      | false =>
        go_wp2_with (fail)
        go_roundw
        case rel => exact ⟨j + 1, by omega, by go_num, any_take_snoc _ hs j x X.out.1 NO.out X.out.2, hbel⟩
        case measure => simp [intOf]; omega
    · obtain rfl : j = m := by omega
      go_wp2_with (fail)
      go_ret
      have e := NO.out
      rw [List.take_of_length_le (by rw [ML.out]; exact Nat.le_refl _)] at e
      exact ⟨-1, rfl, by rw [e]; rfl, hbel⟩

set_option maxHeartbeats 400000 in
theorem contains_other (B : Option Addr) (m c : Nat) (hs : List Hd) (w : World) (hb : ArgS w B m c hs) :
    Calls Try.prog 46 #[.slice B m c, .func (Fn.func 53) #[] #[]] w fun e w' => e = .returned (.bool (hs.any (fun x => x.op != 1))) ∧ Below w.heap.size w w' := by
  have C := Lib.hid (index_other B m c hs w hb)
  obtain ⟨r, hr⟩ : ∃ r, hs.any (fun x => x.op != 1) = r := ⟨_, rfl⟩
  rw [hr] at C ⊢
  clear hr
  go_enter Try.func46, Try.ntmps46
  go_wp2_with (fail)
  refine C.out.mono ?_
  rintro e w' ⟨v, rfl, hv, hbel⟩
  have V := Lib.hid hv
  clear hv
  go_wp2_with (fail)
  go_ret
  rw [← V.out]
  exact ⟨rfl, hbel⟩
end Go.Proofs.Ytpbnodomopdjhaa
