/- The walks of the statements CodeReads, CodeOnce, CodeBack, CodePuts. -/
import Derived.Test.YtpbnodomopdjhaaCodeJ
import Derived.Test.YtpbnodomopdjhaaCodeN
namespace Go.Proofs.Ytpbnodomopdjhaa
open Go.RowKit Go.Proofs En Cd
set_option linter.unusedVariables false
set_option linter.unusedSimpArgs false

theorem rcsame_is {A : Option Addr} {n c : Nat} {hs : List Hd} {B : Option Addr} {m d : Nat} {gs : List Hd} {w : World} {r : Bool} (ha : ArgS w A n c hs) (hb : ArgS w B m d gs) (h : decide (sts hs = sts gs) = r) :
    Calls Try.prog 34 #[.slice A n c, .slice B m d] w fun e w' => e = .returned (.bool r) ∧ Below w.heap.size w w' := by
  have C := rcsame_any A n c hs B m d gs w ha hb
  rw [h] at C
  exact C
theorem csame_is {A : Option Addr} {n c : Nat} {hs : List Hd} {B : Option Addr} {m d : Nat} {gs : List Hd} {w : World} {r : Bool} (ha : ArgS w A n c hs) (hb : ArgS w B m d gs) (h : decide (sts hs = sts gs) = r) :
    Calls Try.prog 37 #[.slice A n c, .slice B m d] w fun e w' => e = .returned (.bool r) ∧ Below w.heap.size w w' := by
  have C := csame_any A n c hs B m d gs w ha hb
  rw [h] at C
  exact C
theorem readF_len : ∀ (k : Nat) (acc : List Stp) (b : List Int), acc.length ≤ 200 → (readF k acc b).1.length ≤ 200 := by
  intro k
  induction k with
  | zero =>
    intro acc b h
    cases b with
    | nil => exact h
    | cons x b => exact Nat.zero_le _
  | succ k ih =>
    intro acc b h
    cases b with
    | nil => exact h
    | cons x b =>
      rw [readF_succ]
      split
      · exact Nat.zero_le _
      · split
        · refine ih _ _ ?_
          rw [List.length_append]
          simp
          omega
        · exact Nat.zero_le _
theorem readAll_len {b : List Int} {l : List Stp} {q : Int} (h : readAll b = (l, q)) : l.length ≤ 200 := by
  have := readF_len b.length [] b (by simp)
  unfold readAll at h
  rw [h] at this
  exact this

set_option maxHeartbeats 1000000 in
theorem codeReads_walk (A : Option Addr) (len cap : Nat) (b : List Int) (w : World) (hb : Arg w A len cap b) :
    Calls Try.prog 8 #[.slice A len cap] w fun e w' => e = .returned (.bool true) ∧ Below w.heap.size w w' := by
  have hl := hb.rd.len
  have hn := hb.len
  obtain ⟨l, q, hlq⟩ : ∃ l q, readAll b = (l, q) := ⟨_, _, rfl⟩
  have h200 := readAll_len hlq
  have L := Lib.hid (And.intro hlq hl)
  clear hlq hl
  go_enter Try.func8, Try.ntmps8
  go_wp2_with (fail)
  refine (wide_any inf_b A len cap b _ hb.rd (by omega)).mono ?_
  rintro e w1 ⟨A1, rfl, ho1, hbl⟩
  have ha1 : Arg w1 A1 len (len + 3) b := wide_arg ho1 hb.isB L.out.2 (by omega)
  have hr1 := ho1.rd
  have hz := hbl.size
  clear ho1
  go_wp2_with (fail)
  refine (read_is ha1 L.out.1).mono ?_
  rintro e w2 ⟨A2, c2, hs, rfl, hss, ho2, hb2⟩
  have hl2 : hs.length = l.length := by rw [← hss, sts_len]
  rw [hl2] at ho2 ⊢
  have hg2 := ho2.arg (by omega)
  have hr2 := hr1.below hb2
  have hbl := bThen hbl hb2
  have hz := hbl.size
  have HS := Lib.hid hss
  clear ho2 hb2 ha1 hr1 hss hl2
  go_wp2_with (fail)
  refine (rread_is (hb.below hbl) L.out.1).mono ?_
  rintro e w3 ⟨A3, c3, gs, rfl, hss, ho3, hb3⟩
  have hl2 : gs.length = l.length := by rw [← hss, sts_len]
  rw [hl2] at ho3 ⊢
  have hg3 := ho3.arg (by omega)
  have hg2 := hg2.below hb3
  have hr3 := hr2.below hb3
  have hbl := bThen hbl hb3
  have hz := hbl.size
  have HT := Lib.hid hss
  clear ho3 hb3 hr2 hss hl2
  go_wp2_with (fail)
  refine (rcsame_is (r := true) hg2 hg3 (by rw [HS.out, HT.out]; exact decide_eq_true rfl)).mono ?_
  rintro e w4 ⟨rfl, hb4⟩
  have hr4 := hr3.below hb4
  have hbl := bThen hbl hb4
  have hz := hbl.size
  clear hb4 hr3 hg2 hg3
  go_wp2_with (fail)
  refine (left_any A1 len A cap b _ hr4 (hb.below hbl).rd (by omega)).mono ?_
  rintro e w5 ⟨rfl, hb5⟩
  have hbl := bThen hbl hb5
  have hz := hbl.size
  clear hb5 hr4
  go_wp2_with (fail)
  refine (lives_any _).mono ?_
  rintro e w6 ⟨rfl, hb6⟩
  have hbl := bThen hbl hb6
  clear hb6
  go_wp2_with (fail)
  go_ret
  exact ⟨rfl, hbl⟩

set_option maxHeartbeats 1000000 in
theorem codeOnce_walk (A : Option Addr) (len cap : Nat) (b : List Int) (w : World) (hb : Arg w A len cap b) :
    Calls Try.prog 9 #[.slice A len cap] w fun e w' => e = .returned (.bool true) ∧ Below w.heap.size w w' := by
  have hl := hb.rd.len
  have hn := hb.len
  obtain ⟨l, q, hlq⟩ : ∃ l q, readAll b = (l, q) := ⟨_, _, rfl⟩
  have h200 := readAll_len hlq
  by_cases hq : q = 0
  · subst hq
    have hput := read_put hb.isB hlq
    have L := Lib.hid (And.intro hlq (And.intro hl hput))
    clear hlq hl hput
    go_enter Try.func9, Try.ntmps9
    go_wp2_with (fail)
    refine (read_is hb L.out.1).mono ?_
    rintro e w2 ⟨A2, c2, hs, rfl, hss, ho2, hbl⟩
    have hl2 : hs.length = l.length := by rw [← hss, sts_len]
    rw [hl2] at ho2 ⊢
    have hg2 := ho2.arg (by omega)
    have hz := hbl.size
    have HS := Lib.hid hss
    clear ho2 hss hl2
    go_wp2_with (fail)
    refine (cput_is (p := b) (q := 0) hg2 (by rw [HS.out]; exact L.out.2.2)).mono ?_
    rintro e w3 ⟨A3, c3, rfl, ho3, hb3⟩
    have hr3 := ho3.rd
    have hbl := bThen hbl hb3
    have hz := hbl.size
    clear ho3 hb3 hg2
    go_wp2_with (fail)
    refine (same_is (r := true) (hb.below hbl).rd hr3 (by omega) (decide_eq_true rfl)).mono ?_
    rintro e w4 ⟨rfl, hb4⟩
    have hbl := bThen hbl hb4
    have hz := hbl.size
    clear hb4 hr3
    go_wp2_with (fail)
    refine (lives_any _).mono ?_
    rintro e w6 ⟨rfl, hb6⟩
    have hbl := bThen hbl hb6
    clear hb6
    go_wp2_with (fail)
    go_ret
    exact ⟨rfl, hbl⟩
  · have hl0 : l = [] := by have := readAll_err (b := b) (by rw [hlq]; exact hq); rw [hlq] at this; exact this
    subst hl0
    have L := Lib.hid hlq
    have d1 : (q != 0) = true := by rw [bne_iff_ne]; exact hq
    clear hlq hq hl
    go_enter Try.func9, Try.ntmps9
    go_wp2_with (fail)
    refine (read_is hb L.out).mono ?_
    rintro e w2 ⟨A2, c2, hs, rfl, hss, ho2, hbl⟩
    have hl2 : hs.length = 0 := by have := congrArg List.length hss; simpa [sts_len] using this
    rw [hl2]
    have hz := hbl.size
    clear ho2 hss hl2
    go_wp2_with (fail)
    refine (lives_any _).mono ?_
    rintro e w6 ⟨rfl, hb6⟩
    have hbl := bThen hbl hb6
    clear hb6
    go_wp2_with (fail)
    go_ret
    exact ⟨rfl, hbl⟩

set_option maxHeartbeats 1000000 in
theorem codeBack_walk (A : Option Addr) (len cap : Nat) (hs : List Hd) (w : World) (hb : ArgS w A len cap hs) :
    Calls Try.prog 11 #[.slice A len cap] w fun e w' => e = .returned (.bool true) ∧ Below w.heap.size w w' := by
  have hl := hb.length
  have hn := hb.len
  obtain ⟨p, q, hpq⟩ : ∃ p q, Cd.putF (sts hs) = (p, q) := ⟨_, _, rfl⟩
  by_cases hq : q = 0
  · subst hq
    obtain ⟨h1, h2, h3⟩ := putF_ok hpq
    rw [sts_len, hl] at h2
    have hread := put_read hpq
    have hpl : p.length ≤ 600600 := by
      have := allF_length _ h1
      rw [sts_len, hl] at this
      rw [h3]; omega
    have hpB : IsB p := by
      rw [h3]
      intro x hx
      unfold allF at hx
      obtain ⟨s, hs1, hs2⟩ := List.mem_flatMap.1 hx
      obtain ⟨y, hy1, rfl⟩ := List.mem_map.1 hs1
      have hok := hb.ok y hy1
      have hm := List.all_eq_true.1 h1 _ hs1
      rcases may_cases hok hm with ⟨e1, e2⟩ | ⟨e1, e2, e3, e4⟩
      · unfold oneF Hd.st at hs2
        have hyl := hok.2.rd.len
        rw [if_pos e1] at hs2
        split at hs2
        · rename_i hle
          rcases List.mem_cons.1 hs2 with rfl | hs2
          · simp only at hle ⊢; omega
          · exact hok.2.isB _ hs2
        · rcases List.mem_cons.1 hs2 with rfl | hs2
          · omega
          · rcases List.mem_cons.1 hs2 with rfl | hs2
            · omega
            · rcases List.mem_cons.1 hs2 with rfl | hs2
              · simp only; omega
              · exact hok.2.isB _ hs2
      · unfold oneF Hd.st at hs2
        rw [if_neg e1] at hs2
        rcases List.mem_singleton.1 hs2 with rfl
        simp only; omega
    have L := Lib.hid (And.intro hpq (And.intro hl hread))
    have PB := Lib.hid hpB
    clear hpq hl hread h1 h3 hpB
    go_enter Try.func11, Try.ntmps11
    go_wp2_with (fail)
    refine (cput_is hb L.out.1).mono ?_
    rintro e w2 ⟨A2, c2, rfl, ho2, hbl⟩
    have hz := hbl.size
    have ha2 : Arg w2 A2 p.length c2 p := ⟨ho2.rd, PB.out, (Own.len_cap ho2).1, (Own.len_cap ho2).2, by omega⟩
    clear ho2
    go_wp2_with (fail)
    refine (read_is ha2 L.out.2.2).mono ?_
    rintro e w3 ⟨A3, c3, gs, rfl, hss, ho3, hb3⟩
    have hgl : gs.length = len := by have := congrArg List.length hss; rw [sts_len, sts_len] at this; rw [this]; exact L.out.2.1
    rw [hgl] at ho3 ⊢
    have hg3 := ho3.arg (by omega)
    have hbl := bThen hbl hb3
    have hz := hbl.size
    have HS := Lib.hid hss
    clear ho3 hb3 ha2 hss hgl
    go_wp2_with (fail)
    refine (rcsame_is (r := true) (hb.below hbl) hg3 (by rw [HS.out]; exact decide_eq_true rfl)).mono ?_
    rintro e w4 ⟨rfl, hb4⟩
    have hg4 := hg3.below hb4
    have hbl := bThen hbl hb4
    have hz := hbl.size
    clear hb4 hg3
    go_wp2_with (fail)
    refine (csame_is (r := true) (hb.below hbl) hg4 (by rw [HS.out]; exact decide_eq_true rfl)).mono ?_
    rintro e w5 ⟨rfl, hb5⟩
    have hbl := bThen hbl hb5
    have hz := hbl.size
    clear hb5 hg4
    go_wp2_with (fail)
    refine (lives_any _).mono ?_
    rintro e w6 ⟨rfl, hb6⟩
    have hbl := bThen hbl hb6
    clear hb6
    go_wp2_with (fail)
    go_ret
    exact ⟨rfl, hbl⟩
  · have hp0 : p = [] := by have := Cd.putF_err (l := sts hs) (by rw [hpq]; exact hq); rw [hpq] at this; exact this
    subst hp0
    have L := Lib.hid hpq
    have d1 : (q != 0) = true := by rw [bne_iff_ne]; exact hq
    clear hpq hq hl
    go_enter Try.func11, Try.ntmps11
    go_wp2_with (fail)
    refine (cput_is hb L.out).mono ?_
    rintro e w2 ⟨A2, c2, rfl, ho2, hbl⟩
    have hz := hbl.size
    clear ho2
    go_wp2_with (fail)
    refine (lives_any _).mono ?_
    rintro e w6 ⟨rfl, hb6⟩
    have hbl := bThen hbl hb6
    clear hb6
    go_wp2_with (fail)
    go_ret
    exact ⟨rfl, hbl⟩

set_option maxHeartbeats 1000000 in
theorem codePuts_walk (A : Option Addr) (len cap : Nat) (hs : List Hd) (w : World) (hb : ArgS w A len cap hs) :
    Calls Try.prog 12 #[.slice A len cap] w fun e w' => e = .returned (.bool true) ∧ Below w.heap.size w w' := by
  have hn := hb.len
  obtain ⟨p, q, hpq⟩ : ∃ p q, Cd.putF (sts hs) = (p, q) := ⟨_, _, rfl⟩
  have hpl : p.length ≤ 9223372036854775807 := by
    by_cases hq : q = 0
    · subst hq
      obtain ⟨h1, h2, h3⟩ := putF_ok hpq
      have := allF_length _ h1
      rw [h3]; omega
    · have := Cd.putF_err (l := sts hs) (by rw [hpq]; exact hq)
      rw [hpq] at this
      have hp0 : p = [] := this
      rw [hp0]; exact Nat.zero_le _
  obtain ⟨r, hr⟩ : ∃ r, (hs.any fun x => x.op != 1) = r := ⟨_, rfl⟩
  have P1 := fun w' (h : ArgS w' A len cap hs) => pushes_any A len cap hs w' h
  have P2 := fun w' (h : ArgS w' A len cap hs) => rpushes_any A len cap hs w' h
  rw [hr] at P1 P2
  have P := Lib.hid (And.intro P1 P2)
  have L := Lib.hid hpq
  clear hpq hr P1 P2
  go_enter Try.func12, Try.ntmps12
  go_wp2_with (fail)
  refine (cput_is hb L.out).mono ?_
  rintro e w2 ⟨A2, c2, rfl, ho2, hbl⟩
  have hz := hbl.size
  have hr2 := ho2.rd
  clear ho2
  go_wp2_with (fail)
  refine (rcput_is (hb.below hbl) L.out).mono ?_
  rintro e w3 ⟨A3, c3, rfl, ho3, hb3⟩
  have hr3 := ho3.rd
  have hr2 := hr2.below hb3
  have hbl := bThen hbl hb3
  have hz := hbl.size
  clear hb3 ho3
  go_wp2_with (fail)
  refine (same_is (r := true) hr2 hr3 hpl (decide_eq_true rfl)).mono ?_
  rintro e w4 ⟨rfl, hb4⟩
  have hbl := bThen hbl hb4
  have hz := hbl.size
  clear hb4 hr2 hr3
  go_wp2_with (fail)
  refine (P.out.1 _ (hb.below hbl)).mono ?_
  rintro e w5 ⟨rfl, hb5⟩
  have hbl := bThen hbl hb5
  have hz := hbl.size
  clear hb5
  go_wp2_with (fail)
  refine (P.out.2 _ (hb.below hbl)).mono ?_
  rintro e w6 ⟨rfl, hb6⟩
  have hbl := bThen hbl hb6
  have hz := hbl.size
  clear hb6
  have hrr : ((!r) == (!r)) = true := by cases r <;> rfl
  go_wp2_with (fail)
  refine (csame_is (r := true) (hb.below hbl) (hb.below hbl) (decide_eq_true rfl)).mono ?_
  rintro e w7 ⟨rfl, hb7⟩
  have hbl := bThen hbl hb7
  have hz := hbl.size
  clear hb7
  go_wp2_with (fail)
  refine (lives_any _).mono ?_
  rintro e w8 ⟨rfl, hb8⟩
  have hbl := bThen hbl hb8
  clear hb8
  go_wp2_with (fail)
  go_ret
  exact ⟨rfl, hbl⟩
end Go.Proofs.Ytpbnodomopdjhaa
