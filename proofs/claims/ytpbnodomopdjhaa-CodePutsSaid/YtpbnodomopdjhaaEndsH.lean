/- The walks of the statements EndsNumbers and EndsRows. -/
import Derived.Test.YtpbnodomopdjhaaEndsG
namespace Go.Proofs.Ytpbnodomopdjhaa
open Go.RowKit Go.Proofs En
set_option linter.unusedVariables false
set_option linter.unusedSimpArgs false

theorem rput_is {n m : Int} {p : List Int} {q : Int} (w : World) (hn : 0 ≤ n ∧ n < 18446744073709551616) (h : putF n m = (p, q)) :
    Calls Try.prog 14 #[.int .u64 n, .int .i64 m] w fun e w' => ∃ A c, e = .returned (.tuple #[.slice A p.length c, .int .i64 q]) ∧ OwnB w' w.heap.size A p.length c p ∧ Below w.heap.size w w' := by
  have C := rput_any n m w hn
  rw [h] at C
  exact C
theorem rget_is {A : Option Addr} {n c : Nat} {b : List Int} {at_ k v q : Int} {w : World} (hb : Arg w A n c b) (ha : -9223372036854775808 ≤ at_ ∧ at_ ≤ 9223372036854775807) (hk : -9223372036854775808 ≤ k ∧ k ≤ 9223372036854775807) (h : getF b at_ k = (v, q)) :
    Calls Try.prog 16 #[.slice A n c, .int .i64 at_, .int .i64 k] w fun e w' => e = .returned (.tuple #[.int .u64 v, .int .i64 q]) ∧ Below w.heap.size w w' := by
  have C := rget_any A n c b at_ k w hb ha hk
  rw [h] at C
  exact C
theorem part_is {A : Option Addr} {n c : Nat} {b p : List Int} {at_ k q : Int} {w : World} (hb : Arg w A n c b) (ha : -9223372036854775808 ≤ at_ ∧ at_ ≤ 9223372036854775807) (hk : -9223372036854775808 ≤ k ∧ k ≤ 9223372036854775807) (h : partF b at_ k = (p, q)) :
    Calls Try.prog 17 #[.slice A n c, .int .i64 at_, .int .i64 k] w fun e w' => ∃ A' c', e = .returned (.tuple #[.slice A' p.length c', .int .i64 q]) ∧ OwnB w' w.heap.size A' p.length c' p ∧ Below w.heap.size w w' := by
  have C := part_any A n c b at_ k w hb ha hk
  rw [h] at C
  exact C
theorem rpart_is {A : Option Addr} {n c : Nat} {b p : List Int} {at_ k q : Int} {w : World} (hb : Arg w A n c b) (ha : -9223372036854775808 ≤ at_ ∧ at_ ≤ 9223372036854775807) (hk : -9223372036854775808 ≤ k ∧ k ≤ 9223372036854775807) (h : partF b at_ k = (p, q)) :
    Calls Try.prog 18 #[.slice A n c, .int .i64 at_, .int .i64 k] w fun e w' => ∃ A' c', e = .returned (.tuple #[.slice A' p.length c', .int .i64 q]) ∧ OwnB w' w.heap.size A' p.length c' p ∧ Below w.heap.size w w' := by
  have C := rpart_any A n c b at_ k w hb ha hk
  rw [h] at C
  exact C
theorem rgetCount_is {A : Option Addr} {n c : Nat} {b : List Int} {at_ v x q : Int} {w : World} (hb : Arg w A n c b) (ha : -9223372036854775808 ≤ at_ ∧ at_ ≤ 9223372036854775807) (h : getCountF b at_ = (v, x, q)) :
    Calls Try.prog 23 #[.slice A n c, .int .i64 at_] w fun e w' => e = .returned (.tuple #[.int .u64 v, .int .i64 x, .int .i64 q]) ∧ Below w.heap.size w w' := by
  have C := rgetCount_any A n c b at_ w hb ha
  rw [h] at C
  exact C
theorem rgetRow_is {A : Option Addr} {n c : Nat} {b : List Int} {at_ most x q : Int} {p : List Int} {w : World} (hb : Arg w A n c b) (ha : -9223372036854775808 ≤ at_ ∧ at_ ≤ 9223372036854775807) (hm : -9223372036854775808 ≤ most ∧ most ≤ 9223372036854775807) (h : getRowF b at_ most = (p, x, q)) :
    Calls Try.prog 25 #[.slice A n c, .int .i64 at_, .int .i64 most] w fun e w' => ∃ A' c', e = .returned (.tuple #[.slice A' p.length c', .int .i64 x, .int .i64 q]) ∧ OwnB w' w.heap.size A' p.length c' p ∧ Below w.heap.size w w' := by
  have C := rgetRow_any A n c b at_ most w hb ha hm
  rw [h] at C
  exact C

/-- what a row's text is told of bytes that came in -/
def Row8 (w : World) (a : Option Addr) (len cap : Nat) (zs : List Int) : Prop :=
  ((a = none ∧ len = 0 ∧ cap = 0 ∧ zs = []) ∨
  ∃ x, a = some x ∧ len ≤ cap ∧ cap ≤ maxLen ∧ zs.length = cap ∧ (∀ i, i < zs.length → w.cell? (x.add i) = some (.int .u8 (zs.getD i 0))) ∧ ∀ n ∈ zs, (Lit.int .u8 n).wf = true) ∧ cap ≤ 140737488351232
theorem bd8 {n : Int} (h : (Lit.int .u8 n).wf = true) : 0 ≤ n ∧ n ≤ 255 := by
  have h1 : IntKind.u8.min = 0 := rfl
  have h2 : IntKind.u8.max = 255 := rfl
  simp only [Lit.wf, Bool.and_eq_true, decide_eq_true_eq] at h
  omega
theorem bd64 {n : Int} (h : (Lit.int .i64 n).wf = true) : -9223372036854775808 ≤ n ∧ n ≤ 9223372036854775807 := by
  have h1 : IntKind.i64.min = -9223372036854775808 := rfl
  have h2 : IntKind.i64.max = 9223372036854775807 := rfl
  simp only [Lit.wf, Bool.and_eq_true, decide_eq_true_eq] at h
  omega
theorem bdu64 {n : Int} (h : (Lit.int .u64 n).wf = true) : 0 ≤ n ∧ n < 18446744073709551616 := by
  have h1 : IntKind.u64.min = 0 := rfl
  have h2 : IntKind.u64.max = 18446744073709551615 := rfl
  simp only [Lit.wf, Bool.and_eq_true, decide_eq_true_eq] at h
  omega
theorem Row8.arg {w : World} {a : Option Addr} {len cap : Nat} {zs : List Int} (h : Row8 w a len cap zs) : Arg w a len cap (zs.take len) ∧ cap ≤ 140737488351232 := by
  obtain ⟨h, hc⟩ := h
  refine ⟨?_, hc⟩
  rcases h with ⟨rfl, rfl, rfl, rfl⟩ | ⟨x, rfl, hl, hm, hz, hcell, hwf⟩
  · exact ⟨RdN.nil _ _ _, IsB.nil, Nat.le_refl _, Nat.zero_le _, Nat.zero_le _⟩
  · refine ⟨⟨by rw [ns_length, List.length_take]; omega, fun hn => ⟨x, rfl, ?_, ?_⟩⟩, fun n hn => bd8 (hwf n (List.mem_of_mem_take hn)), hl, hm, by omega⟩
    · have := World.block_lt_of_cell? w _ (hcell 0 (by omega))
      rw [block_add] at this
      exact this
    · intro j u hu
      have hj : j < len := by
        have := (List.getElem?_eq_some_iff.1 hu).1
        rw [ns_length, List.length_take] at this
        omega
      rw [ns_get _ _ _ (by rw [List.length_take]; omega)] at hu
      rw [hcell j (by omega), ← hu]
      congr 2
      rw [List.getD_eq_getElem?_getD, List.getD_eq_getElem?_getD, List.getElem?_take_of_lt hj]


set_option maxHeartbeats 800000 in
theorem endsNumbers_walk (n sz : Int) (A : Option Addr) (len cap : Nat) (b : List Int) (at_ many : Int) (w : World) (hn : 0 ≤ n ∧ n < 18446744073709551616) (hs : -9223372036854775808 ≤ sz ∧ sz ≤ 9223372036854775807) (hb : Arg w A len cap b)
    (ha : -9223372036854775808 ≤ at_ ∧ at_ ≤ 9223372036854775807) (hm : -9223372036854775808 ≤ many ∧ many ≤ 9223372036854775807) :
    Calls Try.prog 3 #[.int .u64 n, .int .i64 sz, .slice A len cap, .int .i64 at_, .int .i64 many] w fun e w' => e = .returned (.bool true) ∧ Below w.heap.size w w' := by
  obtain ⟨p, q, hp⟩ : ∃ p q, putF n sz = (p, q) := ⟨_, _, rfl⟩
  obtain ⟨v, r, hg⟩ : ∃ p q, getF b at_ sz = (p, q) := ⟨_, _, rfl⟩
  obtain ⟨u, s, ht⟩ : ∃ p q, partF b at_ many = (p, q) := ⟨_, _, rfl⟩
  have hpl : p.length ≤ 140737488355328 := by
    have e : p = (putF n sz).1 := by rw [hp]
    rw [e]
    unfold putF
    split
    · rename_i h; have := szB_or h.1; rw [lowF_length]; omega
    · simp
  have hul : u.length ≤ 140737488355328 := by
    have e : u = (partF b at_ many).1 := by rw [ht]
    have hl := hb.rd.len
    have := hb.len
    rw [e]
    unfold partF
    split
    · simp
    · split
      · simp
      · simp only [List.length_take, List.length_drop]; omega
  have H := Lib.hid (And.intro hp (And.intro hg ht))
  clear hp hg ht
  go_enter Try.func3, Try.ntmps3
  go_wp2_with (fail)
  refine (put_is _ hn H.out.1).mono ?_
  rintro e w1 ⟨A1, c1, rfl, ho1, bl⟩
  have r1 := ho1.rd
  have ar := hb.below bl
  have hz := bl.size
  clear ho1
  go_wp2_with (fail)
  refine (rput_is _ hn H.out.1).mono ?_
  rintro e w2 ⟨A2, c2, rfl, ho2, b2⟩
  have r1 := r1.below b2
  have r2 := ho2.rd
  have ar := ar.below b2
  have bl := bThen bl b2
  have hz := bl.size
  clear ho2 b2
  go_wp2_with (fail)
  refine (get_is ar ha hs H.out.2.1).mono ?_
  rintro e w3 ⟨rfl, b2⟩
  have r1 := r1.below b2
  have r2 := r2.below b2
  have ar := ar.below b2
  have bl := bThen bl b2
  have hz := bl.size
  clear b2
  go_wp2_with (fail)
  refine (rget_is ar ha hs H.out.2.1).mono ?_
  rintro e w4 ⟨rfl, b2⟩
  have r1 := r1.below b2
  have r2 := r2.below b2
  have ar := ar.below b2
  have bl := bThen bl b2
  have hz := bl.size
  clear b2
  go_wp2_with (fail)
  refine (part_is ar ha hm H.out.2.2).mono ?_
  rintro e w5 ⟨A5, c5, rfl, ho5, b2⟩
  have r1 := r1.below b2
  have r2 := r2.below b2
  have r5 := ho5.rd
  have ar := ar.below b2
  have bl := bThen bl b2
  have hz := bl.size
  clear b2 ho5
  go_wp2_with (fail)
  refine (rpart_is ar ha hm H.out.2.2).mono ?_
  rintro e w6 ⟨A6, c6, rfl, ho6, b2⟩
  have r1 := r1.below b2
  have r2 := r2.below b2
  have r5 := r5.below b2
  have r6 := ho6.rd
  have bl := bThen bl b2
  have hz := bl.size
  clear b2 ho6 ar
  go_wp2_with (fail)
  refine (same_is (r := true) r1 r2 (by omega) (decide_eq_true rfl)).mono ?_
  rintro e w7 ⟨rfl, b2⟩
  have r5 := r5.below b2
  have r6 := r6.below b2
  have bl := bThen bl b2
  have hz := bl.size
  clear b2 r1 r2
  go_wp2_with (fail)
  refine (same_is (r := true) r5 r6 (by omega) (decide_eq_true rfl)).mono ?_
  rintro e w8 ⟨rfl, b2⟩
  have bl := bThen bl b2
  have hz := bl.size
  clear b2 r5 r6
  go_wp2_with (fail)
  refine (works01_any _).mono ?_
  rintro e w9 ⟨rfl, b2⟩
  have bl := bThen bl b2
  clear b2
  go_wp2_with (fail)
  go_ret
  exact ⟨rfl, bl⟩

theorem getRowF_len (b : List Int) (at_ most : Int) : (getRowF b at_ most).1.length ≤ b.length := by
  unfold getRowF
  split
  · split
    · simp
    · split
      · rename_i h
        obtain ⟨h1, h2, h3, h4⟩ := partF_ok h
        rw [h4]
        simp only [List.length_take, List.length_drop]; omega
      · simp
  · simp

set_option maxHeartbeats 800000 in
theorem endsRows_walk (n : Int) (A : Option Addr) (len cap : Nat) (b : List Int) (at_ most : Int) (w : World) (hn : 0 ≤ n ∧ n < 18446744073709551616) (hb : Arg w A len cap b) (hcap : len + 9 ≤ 140737488355328)
    (ha : -9223372036854775808 ≤ at_ ∧ at_ ≤ 9223372036854775807) (hm : -9223372036854775808 ≤ most ∧ most ≤ 9223372036854775807) :
    Calls Try.prog 5 #[.int .u64 n, .slice A len cap, .int .i64 at_, .int .i64 most] w fun e w' => e = .returned (.bool true) ∧ Below w.heap.size w w' := by
  obtain ⟨x, i, q, hg⟩ : ∃ p q r, getCountF b at_ = (p, q, r) := ⟨_, _, _, rfl⟩
  obtain ⟨p, j, r, ht⟩ : ∃ p q r, getRowF b at_ most = (p, q, r) := ⟨_, _, _, rfl⟩
  have hpl : p.length ≤ 140737488355328 := by
    have e : p = (getRowF b at_ most).1 := by rw [ht]
    have := getRowF_len b at_ most
    have := hb.rd.len
    rw [e]; omega
  have hc9 : (countF n).length ≤ 9 := by have := countF_len n; omega
  have hrl : (rowF b).length ≤ 9223372036854775807 := by
    have := countF_len (b.length : Int)
    have := hb.rd.len
    unfold rowF
    rw [List.length_append]
    omega
  have H := Lib.hid (And.intro hg ht)
  clear hg ht
  go_enter Try.func5, Try.ntmps5
  go_wp2_with (fail)
  refine (getCount_is hb ha H.out.1).mono ?_
  rintro e w1 ⟨rfl, bl⟩
  have ar := hb.below bl
  have hz := bl.size
  go_wp2_with (fail)
  refine (rgetCount_is ar ha H.out.1).mono ?_
  rintro e w2 ⟨rfl, b2⟩
  have ar := ar.below b2
  have bl := bThen bl b2
  have hz := bl.size
  clear b2
  go_wp2_with (fail)
  refine (getRow_is ar ha hm H.out.2).mono ?_
  rintro e w3 ⟨A3, c3, rfl, ho3, b2⟩
  have r3 := ho3.rd
  have ar := ar.below b2
  have bl := bThen bl b2
  have hz := bl.size
  clear b2 ho3
  go_wp2_with (fail)
  refine (rgetRow_is ar ha hm H.out.2).mono ?_
  rintro e w4 ⟨A4, c4, rfl, ho4, b2⟩
  have r3 := r3.below b2
  have r4 := ho4.rd
  have ar := ar.below b2
  have bl := bThen bl b2
  have hz := bl.size
  clear b2 ho4
  go_wp2_with (fail)
  refine (count_any n _ hn).mono ?_
  rintro e w5 ⟨A5, c5, rfl, ho5, b2⟩
  have r3 := r3.below b2
  have r4 := r4.below b2
  have r5 := ho5.rd
  have ar := ar.below b2
  have bl := bThen bl b2
  have hz := bl.size
  clear b2 ho5
  go_wp2_with (fail)
  refine (rcount_any n _ hn).mono ?_
  rintro e w6 ⟨A6, c6, rfl, ho6, b2⟩
  have r3 := r3.below b2
  have r4 := r4.below b2
  have r5 := r5.below b2
  have r6 := ho6.rd
  have ar := ar.below b2
  have bl := bThen bl b2
  have hz := bl.size
  clear b2 ho6
  go_wp2_with (fail)
  refine (same_is (r := true) r5 r6 (by omega) (decide_eq_true rfl)).mono ?_
  rintro e w7 ⟨rfl, b2⟩
  have r3 := r3.below b2
  have r4 := r4.below b2
  have ar := ar.below b2
  have bl := bThen bl b2
  have hz := bl.size
  clear b2 r5 r6
  go_wp2_with (fail)
  refine (row_any A len cap b _ ar hcap).mono ?_
  rintro e w8 ⟨A8, c8, rfl, ho8, b2⟩
  have r3 := r3.below b2
  have r4 := r4.below b2
  have r8 := ho8.rd
  have ar := ar.below b2
  have bl := bThen bl b2
  have hz := bl.size
  clear b2 ho8
  go_wp2_with (fail)
  refine (rrow_any A len cap b _ ar hcap).mono ?_
  rintro e w9 ⟨A9, c9, rfl, ho9, b2⟩
  have r3 := r3.below b2
  have r4 := r4.below b2
  have r8 := r8.below b2
  have r9 := ho9.rd
  have bl := bThen bl b2
  have hz := bl.size
  clear b2 ho9 ar
  go_wp2_with (fail)
  refine (same_is (r := true) r8 r9 (by omega) (decide_eq_true rfl)).mono ?_
  rintro e w10 ⟨rfl, b2⟩
  have r3 := r3.below b2
  have r4 := r4.below b2
  have bl := bThen bl b2
  have hz := bl.size
  clear b2 r8 r9
  go_wp2_with (fail)
  refine (same_is (r := true) r3 r4 (by omega) (decide_eq_true rfl)).mono ?_
  rintro e w11 ⟨rfl, b2⟩
  have bl := bThen bl b2
  have hz := bl.size
  clear b2 r3 r4
  go_wp2_with (fail)
  refine (works01_any _).mono ?_
  rintro e w12 ⟨rfl, b2⟩
  have bl := bThen bl b2
  clear b2
  go_wp2_with (fail)
  go_ret
  exact ⟨rfl, bl⟩
end Go.Proofs.Ytpbnodomopdjhaa
