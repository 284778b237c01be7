/- The statements' 'lives' of layer 11. -/
import Derived.Test.YtpbnodomopdjhaaCodeI
namespace Go.Proofs.Ytpbnodomopdjhaa
open Go.RowKit Go.Proofs En Cd
set_option linter.unusedVariables false
set_option linter.unusedSimpArgs false

theorem cput_is {B : Option Addr} {m c : Nat} {hs : List Hd} {w : World} {p : List Int} {q : Int} (hb : ArgS w B m c hs) (h : Cd.putF (sts hs) = (p, q)) :
    Calls Try.prog 36 #[.slice B m c] w fun e w' => ∃ A k, e = .returned (.tuple #[.slice A p.length k, .int .i64 q]) ∧ OwnB w' w.heap.size A p.length k p ∧ Below w.heap.size w w' := by
  have C := cput_any B m c hs w hb
  rw [h] at C
  exact C
theorem rcput_is {B : Option Addr} {m c : Nat} {hs : List Hd} {w : World} {p : List Int} {q : Int} (hb : ArgS w B m c hs) (h : Cd.putF (sts hs) = (p, q)) :
    Calls Try.prog 38 #[.slice B m c] w fun e w' => ∃ A k, e = .returned (.tuple #[.slice A p.length k, .int .i64 q]) ∧ OwnB w' w.heap.size A p.length k p ∧ Below w.heap.size w w' := by
  have C := rcput_any B m c hs w hb
  rw [h] at C
  exact C
theorem read_is {A : Option Addr} {n c : Nat} {b : List Int} {w : World} {l : List Stp} {q : Int} (hb : Arg w A n c b) (h : readAll b = (l, q)) :
    Calls Try.prog 32 #[.slice A n c] w fun e w' => ∃ B c' hs, e = .returned (.tuple #[.slice B hs.length c', .int .i64 q]) ∧ sts hs = l ∧ OwnS w' w.heap.size B hs.length c' hs ∧ Below w.heap.size w w' := by
  have C := read_any A n c b w hb
  rw [h] at C
  exact C
theorem rread_is {A : Option Addr} {n c : Nat} {b : List Int} {w : World} {l : List Stp} {q : Int} (hb : Arg w A n c b) (h : readAll b = (l, q)) :
    Calls Try.prog 33 #[.slice A n c] w fun e w' => ∃ B c' hs, e = .returned (.tuple #[.slice B hs.length c', .int .i64 q]) ∧ sts hs = l ∧ OwnS w' w.heap.size B hs.length c' hs ∧ Below w.heap.size w w' := by
  have C := rread_any A n c b w hb
  rw [h] at C
  exact C
theorem argS_lit (w : World) (hs : List Hd) (m g : Nat) (hg : g = w.heap.size) (hm : hs.length = m) (hl : m ≤ 4398046511104) (hok : ∀ h ∈ hs, h.ok w) : ArgS (w.alloc (.cells (hcells hs).toArray 55)) (some ⟨g, 0, none⟩) m m hs := by
  subst hg
  refine ⟨(Own.lit (base := 0) (e := 55) (size := 2) (G := fun _ => True) w (hcells hs).toArray m (Nat.zero_le _) (by unfold maxLen; omega) (by simp [hcells_length, hm]) (fun _ _ => trivial)).rd, fun h hh => ⟨(hok h hh).1, (hok h hh).2.below ((Below.refl _ _).alloc (Nat.le_refl _) _)⟩, Nat.le_refl _, by unfold maxLen; omega, hl⟩

set_option maxHeartbeats 800000 in
theorem lives_any (w : World) :
    Calls Try.prog 35 #[] w fun e w' => e = .returned (.bool true) ∧ Below w.heap.size w w' := by
  go_enter Try.func35, Try.ntmps35
  have hok : ∀ h ∈ [(⟨1, some ⟨w.heap.size, 0, none⟩, 1, 1, [7]⟩ : Hd), ⟨7, none, 0, 0, []⟩], h.ok (w.alloc (.cells (ns .u8 [7]).toArray 5)) := by
    intro h hh
    rcases List.mem_cons.1 hh with rfl | hh
    · exact ⟨⟨(by decide : (0 : Int) ≤ 1), (by decide : (1 : Int) ≤ 255)⟩, arg_lit w [7] 1 (by omega) rfl (isB_dec (by decide))⟩
    · rcases List.mem_singleton.1 hh with rfl
      exact ⟨⟨(by decide : (0 : Int) ≤ 7), (by decide : (7 : Int) ≤ 255)⟩, RdN.nil _ _ _, IsB.nil, Nat.le_refl _, Nat.zero_le _, Nat.zero_le _⟩
  have A1 := argS_lit _ _ 2 (w.heap.size + 1) (by simp) rfl (by omega) hok
  have AH := Lib.hid A1
  clear hok A1
  go_wp2_with (fail)
  refine (cput_is (p := [1, 7, 134]) (q := 0) AH.out (show Cd.putF [(1, [7]), (7, [])] = ([1, 7, 134], 0) from by decide)).mono ?_
  rintro e w1 ⟨A1, c1, rfl, ho1, hb1⟩
  have hbl := (((Below.refl w.heap.size w).alloc (Nat.le_refl _) _).alloc (by simp) _).trans (hb1.mono (by simp; omega))
  have ha1 : Arg w1 A1 3 c1 [1, 7, 134] := ⟨ho1.rd, isB_dec (by decide), (Own.len_cap ho1).1, (Own.len_cap ho1).2, by omega⟩
  have hz := hbl.size
  clear ho1 hb1 AH
  go_wp2_with (fail)
  refine (read_is (l := [(1, [7]), (7, [])]) (q := 0) ha1 (by decide)).mono ?_
  rintro e w2 ⟨A2, c2, hs, rfl, hss, ho2, hb2⟩
  have hl2 : hs.length = 2 := by have := congrArg List.length hss; simpa [sts_len] using this
  rw [hl2]
  rw [hl2] at ho2
  have harg2 : ArgS w2 A2 2 c2 hs := ho2.arg (by omega)
  have hr1 := ha1.rd.below hb2
  have hbl := bThen hbl hb2
  have hz := hbl.size
  have HS := Lib.hid (And.intro hss hl2)
  clear ho2 hb2 ha1 hss hl2
  go_wp2_with (fail)
  refine (read_is (l := []) (q := 5) (arg_lit w2 [255] 1 (by omega) rfl (isB_dec (by decide))) (by decide)).mono ?_
  rintro e w3 ⟨A3, c3, hs3, rfl, hss3, ho3, hb3⟩
  have hl3 : hs3.length = 0 := by have := congrArg List.length hss3; simpa [sts_len] using this
  rw [hl3]
  have e2 : Below w2.heap.size w2 w3 := (belA (Below.refl w2.heap.size w2) _ (Nat.le_refl _)).trans (hb3.mono (by simp))
  have harg3 := harg2.below e2
  have hr3 := hr1.below e2
  have hbl := bThen hbl e2
  have hz := hbl.size
  clear ho3 hb3 hss3 hl3 harg2 hr1 e2
  have A4 := argS_lit w3 [(⟨0, none, 0, 0, []⟩ : Hd)] 1 w3.heap.size rfl rfl (by omega) (by
    intro h hh
    rcases List.mem_singleton.1 hh with rfl
    exact ⟨⟨(by decide : (0 : Int) ≤ 0), (by decide : (0 : Int) ≤ 255)⟩, RdN.nil _ _ _, IsB.nil, Nat.le_refl _, Nat.zero_le _, Nat.zero_le _⟩)
  have AH := Lib.hid A4
  clear A4
  go_wp2_with (fail)
  refine (cput_is (p := []) (q := 2) AH.out (by decide)).mono ?_
  rintro e w4 ⟨A4, c4, rfl, ho4, hb4⟩
  have e3 : Below w3.heap.size w3 w4 := (belA (Below.refl w3.heap.size w3) _ (Nat.le_refl _)).trans (hb4.mono (by simp))
  have harg4 := harg3.below e3
  have hr4 := hr3.below e3
  have hbl := bThen hbl e3
  have hz := hbl.size
  clear ho4 hb4 harg3 hr3 e3 AH
  go_wp2_with (fail)
  refine (same_is (r := true) (hr4.alloc _) (rd_lit w4 [1, 7, 134] 3 (by omega) rfl) (by omega) (by decide)).mono ?_
  rintro e w5 ⟨rfl, hb5⟩
  have e4 : Below w4.heap.size w4 w5 := (belA (Below.refl w4.heap.size w4) _ (Nat.le_refl _)).trans (hb5.mono (by simp))
  obtain ⟨ad, x, rfl, hx, _, hbk, hc0, _, _⟩ := (harg4.below e4).at_ (show 1 < 2 by omega)
  have hx7 : x.op = 7 := by
    have h1 := congrArg (fun l => l[1]?) HS.out.1
    have h2 : (sts hs)[1]? = some x.st := by unfold sts; rw [List.getElem?_map, hx]; rfl
    have h3 : some x.st = some (7, []) := h2.symm.trans h1
    exact congrArg Prod.fst (Option.some.inj h3)
  rw [hx7] at hc0
  have hc0' : w5.cell? ⟨ad.block, ad.off + 2, none⟩ = some (.int .u8 7) := hc0
  have hbl := bThen hbl e4
  have hz := hbl.size
  clear hb5 e4 hx hx7 harg4 hr4
  go_wp2_with (fail)
  go_ret
  exact ⟨rfl, hbl⟩
end Go.Proofs.Ytpbnodomopdjhaa
