/- What the reference's Same answers. -/
import Derived.Test.YtpbnodomopdjhaaCodeE
import Derived.Test.YtpbnodomopdjhaaEndsI
namespace Go.Proofs.Ytpbnodomopdjhaa
open Go.RowKit Go.Proofs En Cd
set_option linter.unusedVariables false
set_option linter.unusedSimpArgs false

theorem keep2 {w w1 w2 : World} {a b : Addr} {x0 x1 y0 y1 : Value}
    (h : Below w.heap.size w w1 ∧ w1.cell? a = some x0 ∧ w1.cell? ⟨a.block, a.off + 1, none⟩ = some x1 ∧ w1.cell? b = some y0 ∧ w1.cell? ⟨b.block, b.off + 1, none⟩ = some y1) (k : Below w1.heap.size w1 w2) :
    Below w.heap.size w w2 ∧ w2.cell? a = some x0 ∧ w2.cell? ⟨a.block, a.off + 1, none⟩ = some x1 ∧ w2.cell? b = some y0 ∧ w2.cell? ⟨b.block, b.off + 1, none⟩ = some y1 := by
  have e : ∀ p v, w1.cell? p = some v → w2.cell? p = some v := fun p v hp => by
    rw [k.cell (World.block_lt_of_cell? _ _ hp)]; exact hp
  exact ⟨bThen h.1 k, e _ _ h.2.1, e _ _ h.2.2.1, e _ _ h.2.2.2.1, e _ _ h.2.2.2.2⟩

set_option maxRecDepth 10000 in
set_option maxHeartbeats 1000000 in
theorem rcsame_any (A : Option Addr) (n c : Nat) (hs : List Hd) (B : Option Addr) (m d : Nat) (gs : List Hd) (w : World) (ha : ArgS w A n c hs) (hb : ArgS w B m d gs) :
    Calls Try.prog 34 #[.slice A n c, .slice B m d] w fun e w' => e = .returned (.bool (decide (sts hs = sts gs))) ∧ Below w.heap.size w w' := by
  have hlen := ha.len
  have hla := ha.length
  have hlb := hb.length
  by_cases hnm : n = m
  · subst hnm
    have L := Lib.hid (And.intro hla hlb)
    clear hla hlb
    go_enter Try.func34, Try.ntmps34
    go_wp2_with (fail)
    go_loopw [5] (fun i wr => ∃ j : Nat, j ≤ n ∧ i = .int .i64 j ∧ sts (hs.take j) = sts (gs.take j) ∧ Below w.heap.size w wr) (fun i _ => n - (intOf i).toNat)
    case atStart => exact ⟨0, by omega, rfl, rfl, Below.refl _ _⟩
    case round =>
      obtain ⟨j, hj, rfl, heq, hbel⟩ := hrel
      have E := Lib.hid heq
      clear heq
      by_cases hlt : j < n
      · obtain ⟨a, x, rfl, hx, hokx, hbx, hx0, hx1, hx2⟩ := (ha.below hbel).at_ hlt
        obtain ⟨b, y, rfl, hy, hoky, hby, hy0, hy1, hy2⟩ := (hb.below hbel).at_ hlt
        have hox := (ha.ok x (List.mem_of_getElem? hx)).2
        have hoy := (hb.ok y (List.mem_of_getElem? hy)).2
        have hxl := hox.len
        have hz := hbel.size
        by_cases h1 : x.op = y.op
        · have t1 : (x.op != y.op) = false := by rw [bne_eq_false_iff_eq]; exact h1
          obtain ⟨r, hr⟩ : ∃ r, decide (x.p = y.p) = r := ⟨_, rfl⟩
          have hst : decide (x.st = y.st) = r := by rw [st_eq, hr, beq_iff_eq.2 h1]; rfl
          have X := Lib.hid (And.intro hx (And.intro hy (And.intro hst hr)))
          have HO := Lib.hid (And.intro hox hoy)
          clear hx hy hr hokx hoky hox hoy hst h1
          go_wp2_with (fail)
          go_region_held3 (fun w' => Below w.heap.size w w' ∧ w'.cell? (a.add (j * 2)) = some (.int .u8 x.op) ∧ w'.cell? ⟨(a.add (j * 2)).block, (a.add (j * 2)).off + 1, none⟩ = some (.slice x.A x.n x.c) ∧ w'.cell? (b.add (j * 2)) = some (.int .u8 y.op) ∧ w'.cell? ⟨(b.add (j * 2)).block, (b.add (j * 2)).off + 1, none⟩ = some (.slice y.A y.n y.c))
            (first | exact ⟨hbel.drew, hx0, hx2, hy0, hy2⟩ | assumption | exact keep2 ‹_› hbn)
            (first
             | (go_at_call 19; refine (same_is (r := r) (HO.out.1.below (And.left ‹_›)).rd (HO.out.2.below (And.left ‹_›)).rd (by omega) X.out.2.2.2).mono ?_; rintro e w' ⟨rfl, hbn⟩))
          rename_i hh
          have hbel2 := hh.1
          clear hh hbel hx0 hx1 hx2 hy0 hy1 hy2 hbn
          cases r with
          | false =>
            go_wp2_with (fail)
            go_ret
            have hne := sts_ne X.out.1 X.out.2.1 (of_decide_eq_false X.out.2.2.1)
            rw [decide_eq_false hne]
            exact ⟨rfl, hbel2⟩
          | true =>
            have H2 := Lib.hid hbel2
            go_wp2_with (fail)
            go_roundw
            case rel => exact ⟨j + 1, by omega, by go_num, sts_take_eq X.out.1 X.out.2.1 E.out (of_decide_eq_true X.out.2.2.1), H2.out⟩
            case measure => simp [intOf]; omega
        · have t1 : (x.op != y.op) = true := by rw [bne_iff_ne]; exact h1
          have hst : x.st ≠ y.st := fun e => h1 (congrArg Prod.fst e)
          have X := Lib.hid (And.intro hx (And.intro hy hst))
          clear hx hy hokx hoky hox hoy hst h1
          go_wp2_with (fail)
          go_quiet (fail)
          have hbel2 := belN hbel ‹Nat›
          go_wp2_with (fail)
          go_ret
          rw [decide_eq_false (sts_ne X.out.1 X.out.2.1 X.out.2.2)]
          refine ⟨rfl, belN hbel _⟩
      · obtain rfl : j = n := by omega
        go_wp2_with (fail)
        go_ret
        have e := E.out
        rw [List.take_of_length_le (by rw [L.out.1]; exact Nat.le_refl _), List.take_of_length_le (by rw [L.out.2]; exact Nat.le_refl _)] at e
        rw [decide_eq_true e]
        exact ⟨rfl, hbel⟩
  · have hne : ¬ (sts hs = sts gs) := by
      intro e
      have := congrArg List.length e
      rw [sts_len, sts_len] at this
      omega
    have d1 : ((n : Int) != m) = true := by rw [bne_iff_ne]; omega
    have H := Lib.hid hne
    clear hne hnm hla hlb
    go_enter Try.func34, Try.ntmps34
    go_wp2_with (fail)
    go_ret
    rw [decide_eq_false H.out]
    exact ⟨rfl, Below.refl _ _⟩
end Go.Proofs.Ytpbnodomopdjhaa
