/- The walks of the statements EndsFresh and EndsOne. -/
import Derived.Test.YtpbnodomopdjhaaEndsH
import Derived.Deep.RegionHeld3
namespace Go.Proofs.Ytpbnodomopdjhaa
open Go.RowKit Go.Proofs En
set_option linter.unusedVariables false
set_option linter.unusedSimpArgs false

theorem getRowF_err {b : List Int} {at_ most : Int} (h : (getRowF b at_ most).2.2 ≠ 0) : (getRowF b at_ most).1 = [] := by
  unfold getRowF at *
  split
  · rename_i h1
    split
    · rfl
    · rename_i h2
      split
      · rename_i h3
        rw [if_pos h1, if_neg h2, if_pos h3] at h
        exact absurd rfl h
      · rfl
  · rfl
/-- what a wide copy is, as bytes to read -/
theorem wide_arg {w : World} {base n : Nat} {A : Option Addr} {b : List Int} (h : OwnN w base 5 .u8 A (n + 3) (n + 3) (b ++ [7, 7, 7])) (hB : IsB b) (hl : b.length = n) (hn : n ≤ 140737488355328) : Arg w A n (n + 3) b := by
  have hs := (Own.short h (k := n) (by omega)).rd
  rw [Nat.mul_one, show ns .u8 (b ++ [7, 7, 7]) = ns .u8 b ++ ns .u8 [7, 7, 7] from ns_append _ _ _, List.take_append_of_le_length (by rw [ns_length]; omega), List.take_of_length_le (by rw [ns_length]; omega)] at hs
  exact ⟨hs, hB, by omega, by unfold maxLen; omega, hn⟩

set_option maxHeartbeats 1000000 in
theorem endsFresh_walk (A : Option Addr) (len cap : Nat) (b : List Int) (at_ k : Int) (w : World) (hb : Arg w A len cap b) (hcap : len + 9 ≤ 140737488355328)
    (ha : -9223372036854775808 ≤ at_ ∧ at_ ≤ 9223372036854775807) (hk : -9223372036854775808 ≤ k ∧ k ≤ 9223372036854775807) :
    Calls Try.prog 7 #[.slice A len cap, .int .i64 at_, .int .i64 k] w fun e w' => e = .returned (.bool true) ∧ Below w.heap.size w w' := by
  have hl := hb.rd.len
  have hbB := hb.isB
  obtain ⟨p, q, hp⟩ : ∃ p q, partF b at_ k = (p, q) := ⟨_, _, rfl⟩
  obtain ⟨r, x, f, hr⟩ : ∃ p q r, getRowF b at_ len = (p, q, r) := ⟨_, _, _, rfl⟩
  have hpl : p.length ≤ 140737488355328 := by
    have e : p = (partF b at_ k).1 := by rw [hp]
    have := hb.len
    rw [e]
    unfold partF
    split
    · simp
    · split
      · simp
      · simp only [List.length_take, List.length_drop]; omega
  have hf : (f == 0) = true ∨ ((f == 0) = false ∧ r.length = 0) := by
    by_cases h : f = 0
    · exact .inl (by rw [beq_iff_eq]; exact h)
    · have h1 : (getRowF b at_ len).2.2 ≠ 0 := by rw [hr]; exact h
      have h2 := getRowF_err h1
      rw [hr] at h2
      exact .inr ⟨by rw [beq_eq_false_iff_ne]; exact h, by rw [show r = [] from h2]; rfl⟩
  have H := Lib.hid (And.intro hp (And.intro hr (And.intro hf (And.intro hl hbB))))
  clear hp hr hf hbB hl
  go_enter Try.func7, Try.ntmps7
  go_wp2_with (fail)
  refine (wide_any inf_b A len cap b _ hb.rd (by omega)).mono ?_
  rintro e w1 ⟨Aw, rfl, how, bl⟩
  have arw := wide_arg how H.out.2.2.2.2 H.out.2.2.2.1 (by omega)
  have ar := hb.below bl
  have rw3 := how.rd
  have hz := bl.size
  clear how
  go_wp2_with (fail)
  refine (part_is arw ha hk H.out.1).mono ?_
  rintro e w2 ⟨A2, c2, rfl, ho2, b2⟩
  have hc2 := Own.len_cap ho2
  go_wp2_with (fail)
  refine (spoil_any A2 _ c2 w1.heap.size p 1 _ ho2 b2.size hc2.2).mono ?_
  rintro e w3 ⟨rfl, b3, _⟩
  have b3 := b2.trans b3
  have arw := arw.below b3
  have ar := ar.below b3
  have rw3 := rw3.below b3
  have bl := bThen bl b3
  have hz := bl.size
  clear ho2 b2 b3 hc2
  go_wp2_with (fail)
  refine (getRow_is arw ha (by omega) H.out.2.1).mono ?_
  rintro e w4 ⟨A4, c4, rfl, ho4, b4⟩
  have hc4 := Own.len_cap ho4
  go_wp2_with (fail)
  refine (spoil_any A4 _ c4 w3.heap.size r 1 _ ho4 b4.size hc4.2).mono ?_
  rintro e w5 ⟨rfl, b5, _⟩
  have b5 := b4.trans b5
  have arw := arw.below b5
  have ar := ar.below b5
  have rw3 := rw3.below b5
  have bl := bThen bl b5
  have hz := bl.size
  clear ho4 b4 b5 hc4
  go_wp2_with (fail)
  refine (row_any Aw len (len + 3) b _ arw hcap).mono ?_
  rintro e w6 ⟨A6, c6, rfl, ho6, b6⟩
  have hc6 := Own.len_cap ho6
  go_wp2_with (fail)
  refine (spoil_any A6 _ c6 w5.heap.size _ 1 _ ho6 b6.size hc6.2).mono ?_
  rintro e w7 ⟨rfl, b7, _⟩
  have b7 := b6.trans b7
  have ar := ar.below b7
  have rw3 := rw3.below b7
  have bl := bThen bl b7
  have hz := bl.size
  clear ho6 b6 b7 hc6 arw
  go_wp2_with (fail)
  refine (rpart_is ar ha hk H.out.1).mono ?_
  rintro e w8 ⟨A8, c8, rfl, ho8, b8⟩
  have r8 := ho8.rd
  have ar := ar.below b8
  have rw3 := rw3.below b8
  have bl := bThen bl b8
  have hz := bl.size
  clear ho8 b8
  go_wp2_with (fail)
  refine (part_is ar ha hk H.out.1).mono ?_
  rintro e w9 ⟨A9, c9, rfl, ho9, b9⟩
  have r9 := ho9.rd
  have r8 := r8.below b9
  have ar := ar.below b9
  have rw3 := rw3.below b9
  have bl := bThen bl b9
  have hz := bl.size
  clear ho9 b9
  go_wp2_with (fail)
  refine (left_any Aw len A cap b _ rw3 ar.rd (by omega)).mono ?_
  rintro e w10 ⟨rfl, b10⟩
  have r8 := r8.below b10
  have r9 := r9.below b10
  have bl := bThen bl b10
  have hz := bl.size
  clear b10 ar rw3
  go_wp2_with (fail)
  refine (same_is (r := true) r8 r9 (by omega) (decide_eq_true rfl)).mono ?_
  rintro e w11 ⟨rfl, b11⟩
  have bl := bThen bl b11
  have hz := bl.size
  clear b11 r8 r9
  rcases H.out.2.2.1 with d1 | ⟨d1, d2⟩
  · go_wp2_with (fail)
    refine (works01_any _).mono ?_
    rintro e w12 ⟨rfl, b12⟩
    have bl := bThen bl b12
    clear b12
    go_wp2_with (fail)
    go_ret
    exact ⟨rfl, bl⟩
  · have d3 : r = [] := List.eq_nil_of_length_eq_zero d2
    go_wp2_with (fail)
    refine (works01_any _).mono ?_
    rintro e w12 ⟨rfl, b12⟩
    have bl := bThen bl b12
    clear b12
    go_wp2_with (fail)
    go_ret
    exact ⟨rfl, bl⟩
end Go.Proofs.Ytpbnodomopdjhaa
