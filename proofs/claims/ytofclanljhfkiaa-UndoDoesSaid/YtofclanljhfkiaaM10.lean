/- Joined texts: TabF, TabG. -/
import Derived.Test.YtofclanljhfkiaaM9
import Derived.Deep.RegionHeld3
/- Rows put one behind the other: Clone, Concat, for coins and for pages. -/
namespace Go.Proofs.Ytofclanljhfkiaa
open Go.RowKit Go.Proofs En Co
set_option linter.unusedVariables false
set_option linter.unusedSimpArgs false
set_option maxRecDepth 20000
attribute [local go_sem] nil_bytes nil_coins

/-- a slice, and what it reads as -/
structure Part where
  A : Option Addr
  n : Nat
  c : Nat
  cs : List Value
def Part.cell (p : Part) : Value := .slice p.A p.n p.c
def Part.ok (w : World) (size : Nat) (p : Part) : Prop := Rd w size p.A p.n p.cs ∧ ∀ u ∈ p.cs, u.oneCell' = true
def parts (ps : List Part) : List Value := ps.flatMap Part.cs
def many (ps : List Part) : Nat := (ps.map Part.n).sum
theorem many_take {ps : List Part} {j : Nat} {p : Part} (h : ps[j]? = some p) : many (ps.take (j + 1)) = many (ps.take j) + p.n := by
  unfold many
  rw [take_next h, List.map_append, List.sum_append]
  simp
theorem parts_take {ps : List Part} {j : Nat} {p : Part} (h : ps[j]? = some p) : parts (ps.take (j + 1)) = parts (ps.take j) ++ p.cs := by
  unfold parts
  rw [take_next h, List.flatMap_append]
  simp
theorem many_le (ps : List Part) (j : Nat) : many (ps.take j) ≤ many ps := by
  have h : many ps = many (ps.take j) + many (ps.drop j) := by
    unfold many
    rw [← List.sum_append, ← List.map_append, List.take_append_drop]
  omega
theorem Part.ok.below {w w' : World} {size : Nat} {p : Part} (h : p.ok w size) (hb : Below w.heap.size w w') : p.ok w' size := ⟨h.1.below hb, h.2⟩
theorem wrap_i64s {n : Int} (h : -9223372036854775808 ≤ n ∧ n ≤ 9223372036854775807) : IntKind.i64.wrap n = n := by
  rw [IntKind.wrap_i64]; omega
theorem rd_part {w : World} {P : Option Addr} {np : Nat} {ps : List Part} (h : Rd w 1 P np (ps.map Part.cell)) {j : Nat} (hj : j < np) :
    ∃ ad p, P = some ad ∧ ps[j]? = some p ∧ ad.block < w.heap.size ∧ w.cell? (ad.add j) = some (.slice p.A p.n p.c) := by
  obtain ⟨ad, e, hb, hc⟩ := h.one hj
  have hl : ps.length = np := by have := h.1; simpa using this
  have hx : ps[j]? = some ps[j] := List.getElem?_eq_getElem (by omega)
  refine ⟨ad, ps[j], e, hx, hb, ?_⟩
  rw [hc, List.getElem?_map, hx]
  rfl
theorem appC (w : World) {ops : Array Oper} {rest : List Oper} {o : Oper} {a : Act} {Q : Exit → Act → World → Prop} (hgd : o.guard = none) (s x : Operand)
    (ho : o.op = .call { callee := .builtin .append, args := #[s, x], argTypes := #[22, 22] })
    (base : Nat) (B : Option Addr) (n c : Nat) (xs : List Value) (hsv : a.eval s = .slice B n c) (hown : Own w base 57 37 (fun _ => True) B n c xs)
    (p : Part) (hx : a.eval x = .slice p.A p.n p.c) (hp : p.ok w 37) (hm : n + p.n ≤ 1000000000) (hbase : base ≤ w.heap.size)
    (h : ∀ B' c' w', Own w' base 57 37 (fun _ => True) B' (n + p.n) c' (xs ++ p.cs) → w.grownBy w' (blk B) → wpList Try.prog ops Q rest (a.put o.dst (.slice B' (n + p.n) c')) w') :
    wpList Try.prog ops Q (o :: rest) a w := by
  obtain ⟨i, z, hi, hz, hzc, hsz, hby⟩ := info_cells inf_coin
  refine wpList_app _ hgd s x _ ho base 57 i z 37 80 (fun _ => True) Try.underlying22 hi hz hsz hby (by rw [hzc]; first | rfl | simpa using cc_length (m := zm) zeroPt_ok) (by omega) (fun _ _ => trivial) B n c xs hsv hown _ p.n p.c p.cs hx hp.1 hp.2 (fun _ _ => trivial)
    (by unfold maxLen; omega) (by omega) hbase ?_
  intro B' c' w' h2 hg2 _
  exact h B' c' w' h2 hg2

set_option maxRecDepth 20000 in
set_option maxHeartbeats 1000000 in
theorem concatC_any (P : Option Addr) (np cp : Nat) (ps : List Part) (w : World) (hP : Rd w 1 P np (ps.map Part.cell)) (hok : ∀ p ∈ ps, p.ok w 37) (hm : many ps ≤ 1000000000) (hnp : np ≤ 1000000000) :
    Calls Try.prog 58 #[.slice P np cp] w fun e w' => ∃ A d, e = .returned (.slice A (many ps) d) ∧ Own w' w.heap.size 57 37 (fun _ => True) A (many ps) d (parts ps) ∧ Below w.heap.size w w' := by
  have hl : ps.length = np := by have := hP.1; simpa using this
  have ML := Lib.hid (And.intro hl (And.intro hP hok))
  clear hl hP hok
  go_enter Try.func58, Try.ntmps58
  go_wp2_with (fail)
  go_loopw [3, 11] (fun v i wr => ∃ j : Nat, j ≤ np ∧ i = .int .i64 j ∧ v = .int .i64 (many (ps.take j)) ∧ w = wr) (fun _ i _ => np - (intOf i).toNat)
  case atStart => exact ⟨0, by omega, rfl, rfl, rfl⟩
  case round =>
    obtain ⟨j, hj, rfl, rfl, rfl⟩ := hrel
    by_cases hlt : j < np
    · obtain ⟨ad, p, rfl, hp, hbk, hc⟩ := rd_part ML.out.2.1 hlt
      have h1 := many_take hp
      have h2 := many_le ps (j + 1)
      have hw : IntKind.i64.wrap ((many (ps.take j) : Int) + (p.n : Int)) = ((many (ps.take (j + 1)) : Nat) : Int) := by rw [h1, wrap_i64s (by omega)]; omega
      have hd : decide (((many (ps.take (j + 1)) : Nat) : Int) < 0) = false := decide_eq_false (by omega)
      obtain ⟨q1, e1⟩ : ∃ q, many (ps.take j) = q := ⟨_, rfl⟩
      obtain ⟨q2, e2⟩ : ∃ q, many (ps.take (j + 1)) = q := ⟨_, rfl⟩
      rw [e1, e2] at h1 hw
      rw [e2] at h2 hd
      rw [e1]
      have E := Lib.hid (And.intro e1 e2)
      clear hp e1 e2
      go_wp2_with (fail)
      go_roundw
      case rel => exact ⟨j + 1, by omega, by go_num, by rw [E.out.2, h1]; go_num, trivial⟩
      case measure => simp [intOf]; omega
    · obtain rfl : np = j := by omega
      have e : ps.take np = ps := List.take_of_length_le (by rw [ML.out.1]; exact Nat.le_refl _)
      rw [e]
      clear e hlt
      go_wp2_with (fail)
      refine (growC_any (many ps) w hm).mono ?_
      rintro e w1 ⟨A1, c1, rfl, ho1, hb1⟩
      go_wp2_with (fail)
      go_loopw [6, 27] (fun v i wr => ∃ j : Nat, j ≤ np ∧ i = .int .i64 j ∧ (∃ A k, v = .slice A (many (ps.take j)) k ∧ Own wr w.heap.size 57 37 (fun _ => True) A (many (ps.take j)) k (parts (ps.take j))) ∧ Below w.heap.size w wr) (fun _ i _ => np - (intOf i).toNat)
      case atStart => exact ⟨0, by omega, rfl, ⟨A1, c1, rfl, ho1⟩, hb1⟩
      case round =>
        clear ho1 hb1
        obtain ⟨j, hj, rfl, ⟨A, k, rfl, ho⟩, hbel⟩ := hrel
        by_cases hlt : j < np
        · obtain ⟨ad, p, rfl, hp, hbk, hc⟩ := rd_part (ML.out.2.1.below hbel) hlt
          have h2 := many_le ps (j + 1)
          rw [many_take hp] at h2
          have hpk := (ML.out.2.2 p (List.mem_of_getElem? hp)).below hbel
          have hz := hbel.size
          have X := Lib.hid (And.intro hp (And.intro hpk (And.intro ho hbel)))
          clear hp hpk ho hbel
          generalize hq : many (ps.take j) = q at *
          have Q := Lib.hid hq
          clear hq
          go_wp2_with (at_builtin; refine Stop.mk ?_)
          refine Stop.out ?_
          refine appC _ rfl (.tmp 31) (.tmp 32) rfl w.heap.size A q k _ rfl X.out.2.2.1 p rfl X.out.2.1 (by omega) hz ?_
          intro A4 k4 w4 ho4 hg4
          have hb4 : Below w.heap.size w w4 := X.out.2.2.2.grown hg4 hz (fun g hg => (Own.lt X.out.2.2.1 g hg).1)
          have H4 := Lib.hid (And.intro ho4 hb4)
          clear ho4 hb4 hg4
          go_wp2_with (fail)
          go_roundw
          case rel =>
            refine ⟨j + 1, by omega, by go_num, ⟨A4, k4, by rw [many_take X.out.1, Q.out], ?_⟩, H4.out.2⟩
            rw [many_take X.out.1, parts_take X.out.1, Q.out]
            exact H4.out.1
          case measure => simp [intOf]; omega
        · obtain rfl : np = j := by omega
          have e : ps.take np = ps := List.take_of_length_le (by rw [ML.out.1]; exact Nat.le_refl _)
          rw [e] at ho
          rw [e]
          have H3 := Lib.hid (And.intro ho hbel)
          clear ho hbel e
          go_wp2_with (fail)
          go_ret
          exact ⟨A, k, rfl, H3.out.1, H3.out.2⟩

theorem appP (w : World) {ops : Array Oper} {rest : List Oper} {o : Oper} {a : Act} {Q : Exit → Act → World → Prop} (hgd : o.guard = none) (s x : Operand)
    (ho : o.op = .call { callee := .builtin .append, args := #[s, x], argTypes := #[27, 27] })
    (base : Nat) (B : Option Addr) (n c : Nat) (xs : List Value) (hsv : a.eval s = .slice B n c) (hown : Own w base 22 1 (fun _ => True) B n c xs)
    (p : Part) (hx : a.eval x = .slice p.A p.n p.c) (hp : p.ok w 1) (hm : n + p.n ≤ 1000000000) (hbase : base ≤ w.heap.size)
    (h : ∀ B' c' w', Own w' base 22 1 (fun _ => True) B' (n + p.n) c' (xs ++ p.cs) → w.grownBy w' (blk B) → wpList Try.prog ops Q rest (a.put o.dst (.slice B' (n + p.n) c')) w') :
    wpList Try.prog ops Q (o :: rest) a w := by
  obtain ⟨i, z, hi, hz, hzc, hsz, hby⟩ := info_cells inf_page
  refine wpList_app _ hgd s x _ ho base 22 i z 1 24 (fun _ => True) Try.underlying27 hi hz hsz hby (by rw [hzc]; first | rfl | simpa using cc_length (m := zm) zeroPt_ok) (by omega) (fun _ _ => trivial) B n c xs hsv hown _ p.n p.c p.cs hx hp.1 hp.2 (fun _ _ => trivial)
    (by unfold maxLen; omega) (by omega) hbase ?_
  intro B' c' w' h2 hg2 _
  exact h B' c' w' h2 hg2

set_option maxRecDepth 20000 in
set_option maxHeartbeats 1000000 in
theorem concatP_any (P : Option Addr) (np cp : Nat) (ps : List Part) (w : World) (hP : Rd w 1 P np (ps.map Part.cell)) (hok : ∀ p ∈ ps, p.ok w 1) (hm : many ps ≤ 1000000000) (hnp : np ≤ 1000000000) :
    Calls Try.prog 109 #[.slice P np cp] w fun e w' => ∃ A d, e = .returned (.slice A (many ps) d) ∧ Own w' w.heap.size 22 1 (fun _ => True) A (many ps) d (parts ps) ∧ Below w.heap.size w w' := by
  have hl : ps.length = np := by have := hP.1; simpa using this
  have ML := Lib.hid (And.intro hl (And.intro hP hok))
  clear hl hP hok
  go_enter Try.func109, Try.ntmps109
  go_wp2_with (fail)
  go_loopw [3, 11] (fun v i wr => ∃ j : Nat, j ≤ np ∧ i = .int .i64 j ∧ v = .int .i64 (many (ps.take j)) ∧ w = wr) (fun _ i _ => np - (intOf i).toNat)
  case atStart => exact ⟨0, by omega, rfl, rfl, rfl⟩
  case round =>
    obtain ⟨j, hj, rfl, rfl, rfl⟩ := hrel
    by_cases hlt : j < np
    · obtain ⟨ad, p, rfl, hp, hbk, hc⟩ := rd_part ML.out.2.1 hlt
      have h1 := many_take hp
      have h2 := many_le ps (j + 1)
      have hw : IntKind.i64.wrap ((many (ps.take j) : Int) + (p.n : Int)) = ((many (ps.take (j + 1)) : Nat) : Int) := by rw [h1, wrap_i64s (by omega)]; omega
      have hd : decide (((many (ps.take (j + 1)) : Nat) : Int) < 0) = false := decide_eq_false (by omega)
      obtain ⟨q1, e1⟩ : ∃ q, many (ps.take j) = q := ⟨_, rfl⟩
      obtain ⟨q2, e2⟩ : ∃ q, many (ps.take (j + 1)) = q := ⟨_, rfl⟩
      rw [e1, e2] at h1 hw
      rw [e2] at h2 hd
      rw [e1]
      have E := Lib.hid (And.intro e1 e2)
      clear hp e1 e2
      go_wp2_with (fail)
      go_roundw
      case rel => exact ⟨j + 1, by omega, by go_num, by rw [E.out.2, h1]; go_num, trivial⟩
      case measure => simp [intOf]; omega
    · obtain rfl : np = j := by omega
      have e : ps.take np = ps := List.take_of_length_le (by rw [ML.out.1]; exact Nat.le_refl _)
      rw [e]
      clear e hlt
      go_wp2_with (fail)
      refine (growP_any (many ps) w hm).mono ?_
      rintro e w1 ⟨A1, c1, rfl, ho1, hb1⟩
      go_wp2_with (fail)
      go_loopw [6, 27] (fun v i wr => ∃ j : Nat, j ≤ np ∧ i = .int .i64 j ∧ (∃ A k, v = .slice A (many (ps.take j)) k ∧ Own wr w.heap.size 22 1 (fun _ => True) A (many (ps.take j)) k (parts (ps.take j))) ∧ Below w.heap.size w wr) (fun _ i _ => np - (intOf i).toNat)
      case atStart => exact ⟨0, by omega, rfl, ⟨A1, c1, rfl, ho1⟩, hb1⟩
      case round =>
        clear ho1 hb1
        obtain ⟨j, hj, rfl, ⟨A, k, rfl, ho⟩, hbel⟩ := hrel
        by_cases hlt : j < np
        · obtain ⟨ad, p, rfl, hp, hbk, hc⟩ := rd_part (ML.out.2.1.below hbel) hlt
          have h2 := many_le ps (j + 1)
          rw [many_take hp] at h2
          have hpk := (ML.out.2.2 p (List.mem_of_getElem? hp)).below hbel
          have hz := hbel.size
          have X := Lib.hid (And.intro hp (And.intro hpk (And.intro ho hbel)))
          clear hp hpk ho hbel
          generalize hq : many (ps.take j) = q at *
          have Q := Lib.hid hq
          clear hq
          go_wp2_with (at_builtin; refine Stop.mk ?_)
          refine Stop.out ?_
          refine appP _ rfl (.tmp 31) (.tmp 32) rfl w.heap.size A q k _ rfl X.out.2.2.1 p rfl X.out.2.1 (by omega) hz ?_
          intro A4 k4 w4 ho4 hg4
          have hb4 : Below w.heap.size w w4 := X.out.2.2.2.grown hg4 hz (fun g hg => (Own.lt X.out.2.2.1 g hg).1)
          have H4 := Lib.hid (And.intro ho4 hb4)
          clear ho4 hb4 hg4
          go_wp2_with (fail)
          go_roundw
          case rel =>
            refine ⟨j + 1, by omega, by go_num, ⟨A4, k4, by rw [many_take X.out.1, Q.out], ?_⟩, H4.out.2⟩
            rw [many_take X.out.1, parts_take X.out.1, Q.out]
            exact H4.out.1
          case measure => simp [intOf]; omega
        · obtain rfl : np = j := by omega
          have e : ps.take np = ps := List.take_of_length_le (by rw [ML.out.1]; exact Nat.le_refl _)
          rw [e] at ho
          rw [e]
          have H3 := Lib.hid (And.intro ho hbel)
          clear ho hbel e
          go_wp2_with (fail)
          go_ret
          exact ⟨A, k, rfl, H3.out.1, H3.out.2⟩
end Go.Proofs.Ytofclanljhfkiaa
/- A copy of a row of coins; a row with others in the place of some. -/
namespace Go.Proofs.Ytofclanljhfkiaa
open Go.RowKit Go.Proofs En Co
set_option linter.unusedVariables false
set_option linter.unusedSimpArgs false
set_option maxRecDepth 20000
attribute [local go_sem] nil_bytes nil_coins

set_option maxRecDepth 20000 in
set_option maxHeartbeats 1000000 in
theorem cloneC_any (p : Part) (w : World) (hp : p.ok w 37) (hn : p.n ≤ 1000000000) :
    Calls Try.prog 73 #[.slice p.A p.n p.c] w fun e w' => ∃ B d, e = .returned (.slice B p.n d) ∧ Own w' w.heap.size 57 37 (fun _ => True) B p.n d p.cs ∧ Below w.heap.size w w' := by
  obtain ⟨A, n, c, cs⟩ := p
  have PP := Lib.hid hp
  have hrd := hp.1
  clear hp
  simp only at hn hrd ⊢
  cases A with
  | none =>
    have hn0 : n = 0 := by
      rcases Nat.eq_zero_or_pos n with h | h
      · exact h
      · obtain ⟨ad, h1, _⟩ := hrd.2 h; cases h1
    subst hn0
    have hx : cs = [] := List.eq_nil_of_length_eq_zero (by have := hrd.1; omega)
    subst hx
    clear hrd
    go_enter Try.func73, Try.ntmps73
    go_wp2_with (fail)
    go_ret
    exact ⟨none, 0, rfl, Own.nil _ _ _ _ _, Below.refl _ _⟩
  | some a =>
    have hb0 : Below w.heap.size w (w.alloc (.cells #[] 57)) := (Below.refl _ _).alloc (Nat.le_refl _) _
    have hz0 := hb0.size
    have o0 := Lib.hid (Own.lit (base := w.heap.size) (e := 57) (size := 37) (G := fun _ => True) w #[] 0 (Nat.le_refl _) (Nat.zero_le _) rfl (fun _ _ => trivial))
    clear hrd
    go_enter Try.func73, Try.ntmps73
    go_wp2_with (at_builtin; refine Stop.mk ?_)
    refine Stop.out ?_
    refine appC _ rfl (.tmp 5) (.tmp 6) rfl w.heap.size (some ⟨w.heap.size, 0, none⟩) 0 0 _ rfl o0.out ⟨some a, n, c, cs⟩ rfl (PP.out.below hb0) (by show 0 + n ≤ _; omega) hz0 ?_
    intro A1 c1 w1 ho1 hg
    have ho1 : Own w1 w.heap.size 57 37 (fun _ => True) A1 (0 + n) c1 cs := ho1
    rw [Nat.zero_add] at ho1
    show wpList _ _ _ _ (Act.put _ _ (.slice A1 (0 + n) c1)) _
    rw [Nat.zero_add]
    have hb1 : Below w.heap.size w w1 := hb0.grown hg hz0 (fun k hk => by injection hk with hk; subst hk; exact Nat.le_refl _)
    have H1 := Lib.hid (And.intro ho1 hb1)
    clear hg hb0 hz0 ho1 hb1 o0
    go_wp2_with (fail)
    go_ret
    exact ⟨A1, c1, rfl, H1.out.1, H1.out.2⟩

theorem Part.ok.pre {w : World} {size n c : Nat} {A : Option Addr} {cs : List Value} (h : Part.ok w size ⟨A, n, c, cs⟩) {k : Nat} (hk : k ≤ n) : Part.ok w size ⟨A, k, c, cs.take (k * size)⟩ := by
  refine ⟨?_, fun u hu => h.2 u (List.mem_of_mem_take hu)⟩
  have h0 := Rd.sub h.1 (lo := 0) (m := k) (by show 0 + k ≤ n; omega)
  rw [Nat.zero_mul, List.drop_zero] at h0
  rcases A with _ | a
  · exact h0
  · have e : a.add 0 = a := by unfold Addr.add; simp
    simp only [Option.map_some, e] at h0
    exact h0
theorem Part.ok.post {w : World} {size n c : Nat} {A : Option Addr} {cs : List Value} (h : Part.ok w size ⟨A, n, c, cs⟩) {k : Nat} (hk : k ≤ n) (hc : n ≤ c) : Part.ok w size ⟨if c = k then A else A.map (fun x => x.add (k * size)), n - k, c - k, cs.drop (k * size)⟩ := by
  refine ⟨?_, fun u hu => h.2 u (List.mem_of_mem_drop hu)⟩
  have h0 := Rd.cut (lo := k) (hi := n) (cap := c) h.1 hk (Nat.le_refl _) hc
  have hl : cs.length = n * size := h.1.1
  rw [List.take_of_length_le (by rw [List.length_drop, hl, ← Nat.sub_mul]; exact Nat.le_refl _)] at h0
  exact h0
theorem rd3 (w : World) (T : TypeId) (x y z : Value) : Rd (w.alloc (.cells #[x, y, z] T)) 1 (some ⟨w.heap.size, 0, none⟩) 3 [x, y, z] :=
  (Own.lit (base := 0) (e := T) (size := 1) (G := fun _ => True) w #[x, y, z] 3 (Nat.zero_le _) (by decide) rfl (fun _ _ => trivial)).rd

set_option maxRecDepth 20000 in
set_option maxHeartbeats 1000000 in
theorem splicedC_any (A : Option Addr) (n c : Nat) (cs : List Value) (at_ lo : Nat) (gone : Int) (p : Part) (w : World) (hl : Part.ok w 37 ⟨A, n, c, cs⟩) (hp : p.ok w 37) (hg : gone = (lo : Int) - at_) (h1 : at_ ≤ lo) (h2 : lo ≤ n) (h3 : n ≤ c) (h4 : c ≤ maxLen) (hm : n + p.n ≤ 1000000) :
    Calls Try.prog 71 #[.slice A n c, .int .i64 at_, .int .i64 gone, .slice p.A p.n p.c] w fun e w' => ∃ B d, e = .returned (.slice B (at_ + p.n + (n - lo)) d) ∧ Own w' w.heap.size 57 37 (fun _ => True) B (at_ + p.n + (n - lo)) d (cs.take (at_ * 37) ++ p.cs ++ cs.drop (lo * 37)) ∧ Below w.heap.size w w' := by
  subst hg
  have wr : IntKind.i64.wrap ((at_ : Int) + ((lo : Int) - (at_ : Int))) = lo := by rw [wrap_i64s (by omega)]; omega
  have i1 : (0 : Int) ≤ (at_ : Int) := by omega
  have i2 : (at_ : Int) ≤ (c : Int) := by omega
  have i3 : (0 : Int) ≤ (lo : Int) := by omega
  have i4 : (lo : Int) ≤ (n : Int) := by omega
  have i5 : (n : Int) ≤ (c : Int) := by omega
  by_cases hcl : c = lo
  · obtain rfl : n = lo := by omega
    subst hcl
    simp only [Nat.sub_self, Nat.add_zero]
    have l0 : Below w.heap.size w (w.alloc (.cells #[.slice A at_ c, .slice p.A p.n p.c, .slice A 0 0] 22)).drew := ((Below.refl _ _).alloc (Nat.le_refl _) _).drew
    have hps : ∀ q ∈ [(⟨A, at_, c, cs.take (at_ * 37)⟩ : Part), p, ⟨A, 0, 0, cs.drop (c * 37)⟩], q.ok (w.alloc (.cells #[.slice A at_ c, .slice p.A p.n p.c, .slice A 0 0] 22)).drew 37 := by
      intro q hq
      rcases List.mem_cons.1 hq with rfl | hq
      · have := (hl.pre (Nat.le_trans h1 h2)).below l0
        simpa using this
      · rcases List.mem_cons.1 hq with rfl | hq
        · exact hp.below l0
        · rcases List.mem_singleton.1 hq with rfl
          have := (hl.post h2 h3).below l0
          simpa using this
    have hmy : many [(⟨A, at_, c, cs.take (at_ * 37)⟩ : Part), p, ⟨A, 0, 0, cs.drop (c * 37)⟩] = at_ + p.n := by simp [many]; try omega
    have hpa : parts [(⟨A, at_, c, cs.take (at_ * 37)⟩ : Part), p, ⟨A, 0, 0, cs.drop (c * 37)⟩] = cs.take (at_ * 37) ++ p.cs ++ cs.drop (c * 37) := by simp [parts]
    have CC := Lib.hid (concatC_any (some ⟨w.heap.size, 0, none⟩) 3 3 _ _ (rd3 w 22 (.slice A at_ c) (.slice p.A p.n p.c) (.slice A 0 0)).drew hps (by rw [hmy]; omega) (by decide))
    rw [hmy, hpa] at CC
    have LL := Lib.hid l0
    clear hl hp hps hmy hpa l0
    go_enter Try.func71, Try.ntmps71
    go_wp2_with (fail)
    have ld : Below w.heap.size w w.drew := (Below.refl _ _).drew
    have la := LL.out
    go_region_held3 (fun w' => Below w.heap.size w w') (first | exact hbl | exact la | exact ld)
      (first | (go_at_call 58; (with_reducible refine (CC.out).mono ?_); rintro e w1 ⟨A1, c1, rfl, ho1, hb1⟩; have hbl := bThen LL.out hb1; have ho := Own.mono ho1 LL.out.size))
    rename_i hHeldX
    clear hHeldX la ld
    have H1 := Lib.hid (And.intro ho hbl)
    clear ho hbl ho1 hb1
    go_wp2_with (fail)
    go_ret
    exact ⟨A1, c1, rfl, H1.out.1, H1.out.2⟩
  · have hcl2 : ¬ (c : Int) = (lo : Int) := by omega
    have l0 : Below w.heap.size w (w.alloc (.cells #[.slice A at_ c, .slice p.A p.n p.c, .slice (A.map (fun x => x.add (lo * 37))) (n - lo) (c - lo)] 22)).drew := ((Below.refl _ _).alloc (Nat.le_refl _) _).drew
    have hps : ∀ q ∈ [(⟨A, at_, c, cs.take (at_ * 37)⟩ : Part), p, ⟨(A.map (fun x => x.add (lo * 37))), (n - lo), (c - lo), cs.drop (lo * 37)⟩], q.ok (w.alloc (.cells #[.slice A at_ c, .slice p.A p.n p.c, .slice (A.map (fun x => x.add (lo * 37))) (n - lo) (c - lo)] 22)).drew 37 := by
      intro q hq
      rcases List.mem_cons.1 hq with rfl | hq
      · have := (hl.pre (Nat.le_trans h1 h2)).below l0
        simpa using this
      · rcases List.mem_cons.1 hq with rfl | hq
        · exact hp.below l0
        · rcases List.mem_singleton.1 hq with rfl
          have := (hl.post h2 h3).below l0
          simpa [hcl] using this
    have hmy : many [(⟨A, at_, c, cs.take (at_ * 37)⟩ : Part), p, ⟨(A.map (fun x => x.add (lo * 37))), (n - lo), (c - lo), cs.drop (lo * 37)⟩] = at_ + p.n + (n - lo) := by simp [many]; try omega
    have hpa : parts [(⟨A, at_, c, cs.take (at_ * 37)⟩ : Part), p, ⟨(A.map (fun x => x.add (lo * 37))), (n - lo), (c - lo), cs.drop (lo * 37)⟩] = cs.take (at_ * 37) ++ p.cs ++ cs.drop (lo * 37) := by simp [parts]
    have CC := Lib.hid (concatC_any (some ⟨w.heap.size, 0, none⟩) 3 3 _ _ (rd3 w 22 (.slice A at_ c) (.slice p.A p.n p.c) (.slice (A.map (fun x => x.add (lo * 37))) (n - lo) (c - lo))).drew hps (by rw [hmy]; omega) (by decide))
    rw [hmy, hpa] at CC
    have LL := Lib.hid l0
    clear hl hp hps hmy hpa l0
    go_enter Try.func71, Try.ntmps71
    go_wp2_with (fail)
    have ld : Below w.heap.size w w.drew := (Below.refl _ _).drew
    have la := LL.out
    go_region_held3 (fun w' => Below w.heap.size w w') (first | exact hbl | exact la | exact ld)
      (first | (go_at_call 58; (with_reducible refine (CC.out).mono ?_); rintro e w1 ⟨A1, c1, rfl, ho1, hb1⟩; have hbl := bThen LL.out hb1; have ho := Own.mono ho1 LL.out.size))
    rename_i hHeldX
    clear hHeldX la ld
    have H1 := Lib.hid (And.intro ho hbl)
    clear ho hbl ho1 hb1
    go_wp2_with (fail)
    go_ret
    exact ⟨A1, c1, rfl, H1.out.1, H1.out.2⟩

set_option maxRecDepth 20000 in
set_option maxHeartbeats 1000000 in
theorem splicedP_any (A : Option Addr) (n c : Nat) (cs : List Value) (at_ lo : Nat) (gone : Int) (p : Part) (w : World) (hl : Part.ok w 1 ⟨A, n, c, cs⟩) (hp : p.ok w 1) (hg : gone = (lo : Int) - at_) (h1 : at_ ≤ lo) (h2 : lo ≤ n) (h3 : n ≤ c) (h4 : c ≤ maxLen) (hm : n + p.n ≤ 1000000) :
    Calls Try.prog 72 #[.slice A n c, .int .i64 at_, .int .i64 gone, .slice p.A p.n p.c] w fun e w' => ∃ B d, e = .returned (.slice B (at_ + p.n + (n - lo)) d) ∧ Own w' w.heap.size 22 1 (fun _ => True) B (at_ + p.n + (n - lo)) d (cs.take (at_) ++ p.cs ++ cs.drop (lo)) ∧ Below w.heap.size w w' := by
  subst hg
  have wr : IntKind.i64.wrap ((at_ : Int) + ((lo : Int) - (at_ : Int))) = lo := by rw [wrap_i64s (by omega)]; omega
  have i1 : (0 : Int) ≤ (at_ : Int) := by omega
  have i2 : (at_ : Int) ≤ (c : Int) := by omega
  have i3 : (0 : Int) ≤ (lo : Int) := by omega
  have i4 : (lo : Int) ≤ (n : Int) := by omega
  have i5 : (n : Int) ≤ (c : Int) := by omega
  by_cases hcl : c = lo
  · obtain rfl : n = lo := by omega
    subst hcl
    simp only [Nat.sub_self, Nat.add_zero]
    have l0 : Below w.heap.size w (w.alloc (.cells #[.slice A at_ c, .slice p.A p.n p.c, .slice A 0 0] 27)).drew := ((Below.refl _ _).alloc (Nat.le_refl _) _).drew
    have hps : ∀ q ∈ [(⟨A, at_, c, cs.take (at_)⟩ : Part), p, ⟨A, 0, 0, cs.drop (c)⟩], q.ok (w.alloc (.cells #[.slice A at_ c, .slice p.A p.n p.c, .slice A 0 0] 27)).drew 1 := by
      intro q hq
      rcases List.mem_cons.1 hq with rfl | hq
      · have := (hl.pre (Nat.le_trans h1 h2)).below l0
        simpa using this
      · rcases List.mem_cons.1 hq with rfl | hq
        · exact hp.below l0
        · rcases List.mem_singleton.1 hq with rfl
          have := (hl.post h2 h3).below l0
          simpa using this
    have hmy : many [(⟨A, at_, c, cs.take (at_)⟩ : Part), p, ⟨A, 0, 0, cs.drop (c)⟩] = at_ + p.n := by simp [many]; try omega
    have hpa : parts [(⟨A, at_, c, cs.take (at_)⟩ : Part), p, ⟨A, 0, 0, cs.drop (c)⟩] = cs.take (at_) ++ p.cs ++ cs.drop (c) := by simp [parts]
    have CC := Lib.hid (concatP_any (some ⟨w.heap.size, 0, none⟩) 3 3 _ _ (rd3 w 27 (.slice A at_ c) (.slice p.A p.n p.c) (.slice A 0 0)).drew hps (by rw [hmy]; omega) (by decide))
    rw [hmy, hpa] at CC
    have LL := Lib.hid l0
    clear hl hp hps hmy hpa l0
    go_enter Try.func72, Try.ntmps72
    go_wp2_with (fail)
    have ld : Below w.heap.size w w.drew := (Below.refl _ _).drew
    have la := LL.out
    go_region_held3 (fun w' => Below w.heap.size w w') (first | exact hbl | exact la | exact ld)
      (first | (go_at_call 109; (with_reducible refine (CC.out).mono ?_); rintro e w1 ⟨A1, c1, rfl, ho1, hb1⟩; have hbl := bThen LL.out hb1; have ho := Own.mono ho1 LL.out.size))
    rename_i hHeldX
    clear hHeldX la ld
    have H1 := Lib.hid (And.intro ho hbl)
    clear ho hbl ho1 hb1
    go_wp2_with (fail)
    go_ret
    exact ⟨A1, c1, rfl, H1.out.1, H1.out.2⟩
  · have hcl2 : ¬ (c : Int) = (lo : Int) := by omega
    have l0 : Below w.heap.size w (w.alloc (.cells #[.slice A at_ c, .slice p.A p.n p.c, .slice (A.map (fun x => x.add (lo))) (n - lo) (c - lo)] 27)).drew := ((Below.refl _ _).alloc (Nat.le_refl _) _).drew
    have hps : ∀ q ∈ [(⟨A, at_, c, cs.take (at_)⟩ : Part), p, ⟨(A.map (fun x => x.add (lo))), (n - lo), (c - lo), cs.drop (lo)⟩], q.ok (w.alloc (.cells #[.slice A at_ c, .slice p.A p.n p.c, .slice (A.map (fun x => x.add (lo))) (n - lo) (c - lo)] 27)).drew 1 := by
      intro q hq
      rcases List.mem_cons.1 hq with rfl | hq
      · have := (hl.pre (Nat.le_trans h1 h2)).below l0
        simpa using this
      · rcases List.mem_cons.1 hq with rfl | hq
        · exact hp.below l0
        · rcases List.mem_singleton.1 hq with rfl
          have := (hl.post h2 h3).below l0
          simpa [hcl] using this
    have hmy : many [(⟨A, at_, c, cs.take (at_)⟩ : Part), p, ⟨(A.map (fun x => x.add (lo))), (n - lo), (c - lo), cs.drop (lo)⟩] = at_ + p.n + (n - lo) := by simp [many]; try omega
    have hpa : parts [(⟨A, at_, c, cs.take (at_)⟩ : Part), p, ⟨(A.map (fun x => x.add (lo))), (n - lo), (c - lo), cs.drop (lo)⟩] = cs.take (at_) ++ p.cs ++ cs.drop (lo) := by simp [parts]
    have CC := Lib.hid (concatP_any (some ⟨w.heap.size, 0, none⟩) 3 3 _ _ (rd3 w 27 (.slice A at_ c) (.slice p.A p.n p.c) (.slice (A.map (fun x => x.add (lo))) (n - lo) (c - lo))).drew hps (by rw [hmy]; omega) (by decide))
    rw [hmy, hpa] at CC
    have LL := Lib.hid l0
    clear hl hp hps hmy hpa l0
    go_enter Try.func72, Try.ntmps72
    go_wp2_with (fail)
    have ld : Below w.heap.size w w.drew := (Below.refl _ _).drew
    have la := LL.out
    go_region_held3 (fun w' => Below w.heap.size w w') (first | exact hbl | exact la | exact ld)
      (first | (go_at_call 109; (with_reducible refine (CC.out).mono ?_); rintro e w1 ⟨A1, c1, rfl, ho1, hb1⟩; have hbl := bThen LL.out hb1; have ho := Own.mono ho1 LL.out.size))
    rename_i hHeldX
    clear hHeldX la ld
    have H1 := Lib.hid (And.intro ho hbl)
    clear ho hbl ho1 hb1
    go_wp2_with (fail)
    go_ret
    exact ⟨A1, c1, rfl, H1.out.1, H1.out.2⟩
end Go.Proofs.Ytofclanljhfkiaa
