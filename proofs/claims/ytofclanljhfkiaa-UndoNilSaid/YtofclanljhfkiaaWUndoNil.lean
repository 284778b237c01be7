/- Joined texts: UnO. -/
import Derived.Test.YtofclanljhfkiaaM27
/- UndoNil: the walk. -/
namespace Go.Proofs.Ytofclanljhfkiaa
open Go.RowKit Go.Proofs En Co
set_option linter.unusedVariables false
set_option linter.unusedSimpArgs false
set_option maxRecDepth 20000


set_option maxRecDepth 20000 in
set_option maxHeartbeats 4000000 in
theorem undoNil_walk (A : Option Addr) (n c : Nat) (hs : List Cm) (B : Option Addr) (n2 c2 : Nat) (xs : List Pt) (B3 : Option Addr) (n3 c3 : Nat) (ys : List Pt) (z : Bool) (w : World) (hu : FirmP w w.heap.size ⟨A, n, c, hs⟩ ∧ FirmQ w w.heap.size B n2 c2 xs ∧ c ≤ 1759218604392 ∧ c2 ≤ 3518437208781) (hq : FirmQ w w.heap.size B3 n3 c3 ys ∧ c3 ≤ 3518437208781) (hz : True) :
    Calls Try.prog 3 #[.agg #[.slice A n c, .slice B n2 c2], .slice B3 n3 c3, .bool z] w fun e w' => e = .returned (.bool true) ∧ Below w.heap.size w w' := by
  clear hu hq
  have r0 : (w.alloc (.cells #[.slice A n c, .slice B n2 c2] 25)).heap[w.heap.size]? = some (.cells #[.slice A n c, .slice B n2 c2] 25 (0, 0)) := heap_alloc_new w _
  have b0 : Below w.heap.size w (w.alloc (.cells #[.slice A n c, .slice B n2 c2] 25)) := (Below.refl _ _).alloc (Nat.le_refl _) _
  go_enter Try.func3, Try.ntmps3
  cases z with
  | false =>
    have s1 : Below w.heap.size w (w.alloc (.cells #[.slice A n c, .slice B n2 c2] 25)) ∧ Off (w.alloc (.cells #[.slice A n c, .slice B n2 c2] 25)) (.pointer none) ∧ (w.alloc (.cells #[.slice A n c, .slice B n2 c2] 25)).heap[w.heap.size]? = some (.cells #[.slice A n c, .slice B n2 c2] 25 (0, 0)) := ⟨b0, .inl rfl, r0⟩
    clear r0 b0
    go_wp2_with (fail)
    refine (doN_any _ _ s1.2.1 _ _).mono ?_
    rintro e w1 ⟨rfl, hb1⟩
    have l2 : Below w1.heap.size w1 (w1.alloc (.cells #[.slice none 0 0, .slice none 0 0] 25)) := (Below.refl _ _).alloc (Nat.le_refl _) _
    have b2 := bThen hb1 l2
    have of2 := s1.2.1.below b2
    have bx2 := kept s1.2.2 b2
    have x0 := (row_cells bx2 0).1
    have x1 := (row_cells bx2 1).1
    have BK := Lib.hid (backN_any _ _ of2 A n c B n2 c2)
    have bl2 := Lib.hid (bThen s1.1 b2)
    clear hb1 l2 b2 of2 bx2 s1
    go_wp2_with (fail)
    refine BK.out.mono ?_
    rintro e w3 ⟨rfl, hb3⟩
    have bl3 := Lib.hid (bThen bl2.out hb3)
    clear hb3 x0 x1
    go_wp2_with (fail)
    refine (works25_any w3).mono ?_
    rintro e w4 ⟨rfl, hb4⟩
    have bl4 := Lib.hid (bThen bl3.out hb4)
    clear hb4
    go_wp2_with (fail)
    go_ret
    exact ⟨rfl, bl4.out⟩
  | true =>
    obtain ⟨h1, h2⟩ := two_box w (.cells #[.slice A n c, .slice B n2 c2] 25) (.cells #[.bool false, .slice none 0 0, .int .i64 0] 29)
    have s1 : Below w.heap.size w ((w.alloc (.cells #[.slice A n c, .slice B n2 c2] 25)).alloc (.cells #[.bool false, .slice none 0 0, .int .i64 0] 29)) ∧ Off ((w.alloc (.cells #[.slice A n c, .slice B n2 c2] 25)).alloc (.cells #[.bool false, .slice none 0 0, .int .i64 0] 29)) (.pointer (some ⟨w.heap.size + 1, 0, none⟩)) ∧ ((w.alloc (.cells #[.slice A n c, .slice B n2 c2] 25)).alloc (.cells #[.bool false, .slice none 0 0, .int .i64 0] 29)).heap[w.heap.size]? = some (.cells #[.slice A n c, .slice B n2 c2] 25 (0, 0)) := ⟨belA b0 _ (Nat.le_refl _), .inr ⟨_, rfl, h2⟩, h1⟩
    clear r0 b0 h1 h2
    go_wp2_with (fail)
    refine (doN_any _ _ s1.2.1 _ _).mono ?_
    rintro e w1 ⟨rfl, hb1⟩
    have l2 : Below w1.heap.size w1 (w1.alloc (.cells #[.slice none 0 0, .slice none 0 0] 25)) := (Below.refl _ _).alloc (Nat.le_refl _) _
    have b2 := bThen hb1 l2
    have of2 := s1.2.1.below b2
    have bx2 := kept s1.2.2 b2
    have x0 := (row_cells bx2 0).1
    have x1 := (row_cells bx2 1).1
    have BK := Lib.hid (backN_any _ _ of2 A n c B n2 c2)
    have bl2 := Lib.hid (bThen s1.1 b2)
    clear hb1 l2 b2 of2 bx2 s1
    go_wp2_with (fail)
    refine BK.out.mono ?_
    rintro e w3 ⟨rfl, hb3⟩
    have bl3 := Lib.hid (bThen bl2.out hb3)
    clear hb3 x0 x1
    go_wp2_with (fail)
    refine (works25_any w3).mono ?_
    rintro e w4 ⟨rfl, hb4⟩
    have bl4 := Lib.hid (bThen bl3.out hb4)
    clear hb4
    go_wp2_with (fail)
    go_ret
    exact ⟨rfl, bl4.out⟩
end Go.Proofs.Ytofclanljhfkiaa
