/- The walks of PlaneOf and PlaneBeside. -/
import Derived.Test.YtedbbbbjajafgaaPlaneG
import Derived.Deep.RegionWith
import Derived.Deep.RegionHeld3
namespace Go.Proofs.Ytedbbbbjajafgaa
open Go.RowKit Go.Proofs Fl
set_option linter.unusedVariables false
set_option linter.unusedSimpArgs false

set_option maxHeartbeats 1000000 in
theorem same_self (A B : Option Addr) (n c d : Nat) (xs : List Int) (w : World) (hx : RdN w .u64 A n xs) (hy : RdN w .u64 B n xs) (hn : n ≤ 1000000000000) :
    Calls Try.prog 20 #[.slice A n c, .slice B n d] w fun e w' => e = .returned (.bool true) ∧ ∃ k, w' = w.drewN k := by
  go_enter Try.func20, Try.ntmps20
  go_wp2_with (fail)
  go_loopw [5] (fun i wr => ∃ k : Nat, k ≤ n ∧ i = .int .i64 k ∧ ∃ d, wr = w.drewN d) (fun i _ => n - (intOf i).toNat)
  case atStart => exact ⟨0, Nat.zero_le _, rfl, 0, rfl⟩
  case round =>
    obtain ⟨k, hk, rfl, dd, rfl⟩ := hrel
    by_cases hlt : k < n
    · obtain ⟨ad, rfl, hb, hc⟩ := hx.at_ hlt
      obtain ⟨bd, rfl, hb', hc'⟩ := hy.at_ hlt
      generalize xs.getD k 0 = x at *
      have hxx : (x != x) = false := by rw [bne_eq_false_iff_eq]
      go_wp2_with (fail)
      go_quiet (fail)
      go_wp2_with (fail)
      go_roundw
      case rel => exact ⟨k + 1, by omega, by go_num, _, rfl⟩
      case measure => simp [intOf]; omega
    · go_wp2_with (fail)
      go_ret
      exact ⟨rfl, _, rfl⟩

set_option maxRecDepth 100000 in
set_option maxHeartbeats 1000000 in
theorem planeOf_walk (n : Nat) (w : World) :
    Calls Try.prog 7 #[.int .u64 n] w fun e w' => e = .returned (.bool true) ∧ Below w.heap.size w w' := by
  have C := Lib.hid (And.intro (fun w => of_any n w) (And.intro (fun w => rof_any n w) (And.intro (fun w => beside_any n w) (fun w => rbeside_any n w))))
  have si := sw_of_inr (ofF_inr n)
  have hl : (besF n).1.length ≤ 4 := by
    unfold besF; split
    · exact besK_len _ 4
    · simp
  have o1 := fl_self si.1
  have o2 := fl_self si.2
  have S := Lib.hid si
  clear si
  go_enter Try.func7, Try.ntmps7
  go_wp2_with (fail)
  refine (C.out.1 _).mono ?_
  rintro e w' ⟨rfl, rfl⟩
  go_wp2_with (fail)
  refine (C.out.2.1 _).mono ?_
  rintro e w1 ⟨rfl, hb1⟩
  generalize (Pl.ofF n).1 = z at *
  have e1 : ((Pl.ofF n).2 == (Pl.ofF n).2) = true := beq_self_eq_true _
  generalize (Pl.ofF n).2 = er at *
  go_wp2_with (fail)
  refine (C.out.2.2.1 _).mono ?_
  rintro e w2 ⟨A, c, rfl, hown2, hb2⟩
  have hd0 : w2.cell? ⟨w1.heap.size, 0, none⟩ = some (.int .i64 z.1) := by rw [hb2.cell (by simp)]; simp
  have hd1 : w2.cell? ⟨w1.heap.size, 1, none⟩ = some (.int .i64 z.2) := by rw [hb2.cell (by simp)]; simp
  have hlt2 : w1.heap.size < w2.heap.size := by have := hb2.size; simp at this; omega
  have hB2 : Below w.heap.size w w2 := bThen (hb1.alloc hb1.size _) hb2
  clear hb1 hb2
  go_wp2_with (fail)
  refine (C.out.2.2.2 _).mono ?_
  rintro e w3 ⟨B, d, rfl, hown3, hb3⟩
  have he0 : w3.cell? ⟨w1.heap.size, 0, none⟩ = some (.int .i64 z.1) := (hb3.cell hlt2).trans hd0
  have he1 : w3.cell? ⟨w1.heap.size, 1, none⟩ = some (.int .i64 z.2) := (hb3.cell hlt2).trans hd1
  have hr2 := (hown2.below hb3).rd
  have hr3 := hown3.rd
  have hB3 : Below w.heap.size w w3 := bThen hB2 hb3
  have e2 : ((besF n).2 == (besF n).2) = true := beq_self_eq_true _
  clear hown2 hown3 hd0 hd1 hb3
  go_wp2_with (fail)
  refine (spot_any _ _ _ S.out.1 S.out.2).mono ?_
  rintro e w4 ⟨rfl, hb4⟩
  have hr4 := hr2.below hb4
  have hr5 := hr3.below hb4
  clear hr2 hr3
  go_wp2_with (fail)
  refine (same_self A B _ c d _ _ hr4 hr5 (by omega)).mono ?_
  rintro e w5 ⟨rfl, nd, rfl⟩
  go_wp2_with (fail)
  refine (lives_any _).mono ?_
  rintro e w6 ⟨rfl, rfl⟩
  go_wp2_with (fail)
  go_ret
  exact ⟨rfl, bdN (bThen hB3 hb4) _⟩

/-- is x among the first j? -/
def anyB (x : Int) (l : List Int) : Nat → Bool
  | 0 => false
  | j + 1 => anyB x l j || (l.getD j 0 == x)
theorem anyB_mem (x : Int) (l : List Int) (h : x ∈ l) : anyB x l l.length = true := by
  obtain ⟨i, hi, rfl⟩ := List.getElem_of_mem h
  have key : ∀ j, i < j → anyB l[i] l j = true := by
    intro j
    induction j with
    | zero => intro h; omega
    | succ j ih =>
      intro h
      unfold anyB
      by_cases h' : i < j
      · rw [ih h', Bool.true_or]
      · obtain rfl : i = j := by omega
        rw [List.getD_eq_getElem?_getD, List.getElem?_eq_getElem hi]
        simp
  exact key _ hi

theorem mem_besK (z : Int × Int) (k : Nat) (x : Int) : x ∈ besK z k ↔ ∃ q, q < k ∧ (Pl.backF (nb z q)).2 = 0 ∧ x = ((Pl.backF (nb z q)).1 : Int) := by
  induction k with
  | zero => simp [besK]
  | succ k ih =>
    unfold besK
    rw [List.mem_append, ih]
    constructor
    · rintro (⟨q, h1, h2⟩ | h)
      · exact ⟨q, by omega, h2⟩
      · split at h
        · rename_i h0
          exact ⟨k, by omega, h0, by simpa using h⟩
        · simp at h
    · rintro ⟨q, h1, h2, h3⟩
      by_cases hq : q < k
      · exact .inl ⟨q, hq, h2, h3⟩
      · obtain rfl : q = k := by omega
        refine .inr ?_
        rw [if_pos h2]
        simpa using h3

theorem nb_back (z : Int × Int) (q : Nat) (hq : q < 4) : nb (nb z q) ((q + 2) % 4) = z ∧ nb z q ≠ z := by
  obtain ⟨a, b⟩ := z
  have h : q = 0 ∨ q = 1 ∨ q = 2 ∨ q = 3 := by omega
  rcases h with rfl | rfl | rfl | rfl
  all_goals
    refine ⟨?_, ?_⟩
    · simp [nb, Pl.turnF]; try omega
    · simp [nb, Pl.turnF]; try omega

theorem besF_of {n : Nat} {z : Int × Int} (h : Pl.ofF n = (z, 0)) : besF n = (besK z 4, 0) := by
  unfold besF; rw [h]; exact if_pos rfl

/-- who is beside one has it beside -/
theorem beside_law (n : Nat) (hn : n < 1099511627776) (x : Int) (hx : x ∈ (besF n).1) : ∃ m : Nat, x = m ∧ m < 1099511627776 ∧ m ≠ n ∧ (besF m).2 = 0 ∧ (n : Int) ∈ (besF m).1 := by
  have h1 : Pl.ofF n = (Pl.V n 40, 0) := by unfold Pl.ofF; rw [if_pos hn]
  have h2 : besF n = (besK (Pl.V n 40) 4, 0) := besF_of h1
  rw [h2] at hx
  obtain ⟨q, hq, h3, h4⟩ := (mem_besK _ _ _).1 hx
  obtain ⟨m, hm⟩ : ∃ m, Pl.backF (nb (Pl.V n 40) q) = (m, 0) := by
    generalize Pl.backF (nb (Pl.V n 40) q) = r at h3
    obtain ⟨m, e⟩ := r
    exact ⟨m, by rw [show e = 0 from h3]⟩
  obtain ⟨hl, hv⟩ := Pl.of_back _ m hm
  obtain ⟨hb1, hb2⟩ := nb_back (Pl.V n 40) q hq
  rw [hm] at h4
  refine ⟨m, h4, hl, ?_, ?_, ?_⟩
  · intro e
    rw [e] at hv
    exact hb2 hv.symm
  · have : Pl.ofF m = (Pl.V m 40, 0) := by unfold Pl.ofF; rw [if_pos hl]
    rw [besF_of this]
  · have h5 : Pl.ofF m = (Pl.V m 40, 0) := by unfold Pl.ofF; rw [if_pos hl]
    have h6 : besF m = (besK (Pl.V m 40) 4, 0) := besF_of h5
    rw [h6, hv]
    refine (mem_besK _ _ _).2 ⟨(q + 2) % 4, by omega, ?_, ?_⟩
    · rw [hb1, Pl.back_of n hn]
    · rw [hb1, Pl.back_of n hn]

theorem turn_four (z : Int × Int) (k : Int) : Pl.turnF z (4 * k) = z := by
  unfold Pl.turnF
  have : 4 * k % 4 = 0 := by omega
  rw [this]; rfl
theorem turn_one (z : Int × Int) (k : Int) : Pl.turnF (Pl.turnF z k) 1 = Pl.turnF z (k + 1) := by
  unfold Pl.turnF
  have h : k % 4 = 0 ∨ k % 4 = 1 ∨ k % 4 = 2 ∨ k % 4 = 3 := by omega
  rcases h with h | h | h | h
  · have h' : (k + 1) % 4 = 1 := by omega
    rw [h, h']; simp
  · have h' : (k + 1) % 4 = 2 := by omega
    rw [h, h']; simp
  · have h' : (k + 1) % 4 = 3 := by omega
    rw [h, h']; simp
  · have h' : (k + 1) % 4 = 0 := by omega
    rw [h, h']; simp

set_option maxRecDepth 100000 in
set_option maxHeartbeats 2000000 in
theorem planeBeside_walk (n a b k : Int) (w : World) (hn : 0 ≤ n ∧ n ≤ 18446744073709551615) (ha : -2147483648 ≤ a ∧ a ≤ 2147483647) (hb : -2147483648 ≤ b ∧ b ≤ 2147483647) (hk : -32768 ≤ k ∧ k ≤ 32767) :
    Calls Try.prog 8 #[.int .u64 n, .int .i32 a, .int .i32 b, .int .i16 k] w fun e w' => e = .returned (.bool true) ∧ Below w.heap.size w w' := by
  obtain ⟨x, hx⟩ : ∃ x : Nat, (x : Int) = n % 1099511627776 := ⟨(n % 1099511627776).toNat, by omega⟩
  have hxl : x < 1099511627776 := by omega
  have hlaw := beside_law x hxl
  have hl : (besF x).1.length ≤ 4 := by
    unfold besF; split
    · exact besK_len _ 4
    · simp
  have he : (besF x).2 = 0 := by
    have h1 : Pl.ofF x = (Pl.V x 40, 0) := by unfold Pl.ofF; rw [if_pos hxl]
    rw [besF_of h1]
  have hsa := sw_tmod a
  have hsb := sw_tmod b
  have C := Lib.hid (And.intro (fun n w => beside_any n w) (And.intro ha (And.intro hb (And.intro hsa (And.intro hsb hlaw)))))
  have ex : n % 1099511627776 = (x : Int) := hx.symm
  have X := Lib.hid ex
  have HE := Lib.hid (And.intro he hl)
  clear hxl hlaw hx ha hb hsa hsb he hl
  have ex := X.out
  go_enter Try.func8, Try.ntmps8
  go_wp2_with (fail)
  refine (C.out.1 x _).mono ?_
  rintro e w1 ⟨A, c, rfl, hown, hb1⟩
  have hr1 := hown.rd
  have hl := HE.out.2
  rw [HE.out.1]
  clear hown HE
  obtain ⟨l, hll⟩ : ∃ l, l = (besF x).1 := ⟨_, rfl⟩
  have hlaw2 : ∀ y ∈ l, ∃ m : Nat, y = m ∧ m < 1099511627776 ∧ m ≠ x ∧ (besF m).2 = 0 ∧ (x : Int) ∈ (besF m).1 := by rw [hll]; exact C.out.2.2.2.2.2
  have L := Lib.hid hlaw2
  rw [← hll] at hr1 hl ⊢
  clear hlaw2 hll
  go_wp2_with (fail)
  go_loopw [11] (fun i wr => ∃ j : Nat, j ≤ l.length ∧ i = .int .i64 j ∧ RdN wr .u64 A l.length l ∧ Below w.heap.size w wr) (fun i _ => l.length - (intOf i).toNat)
  case atStart => exact ⟨0, by omega, rfl, hr1, hb1⟩
  case round =>
    obtain ⟨j, hj, rfl, hr, hbel⟩ := hrel
    by_cases hlt : j < l.length
    · obtain ⟨ad, rfl, hbk, hc⟩ := hr.at_ hlt
      have hmem : l.getD j 0 ∈ l := by
        rw [List.getD_eq_getElem?_getD, List.getElem?_eq_getElem hlt]
        exact List.getElem_mem hlt
      obtain ⟨m, hm, hm1, hm2, hm3, hm4⟩ := L.out _ hmem
      rw [hm] at hc
      have hlm : (besF m).1.length ≤ 4 := by
        unfold besF; split
        · exact besK_len _ 4
        · simp
      have hany := anyB_mem _ _ hm4
      have tmx : ((m : Int) == (x : Int)) = false := by rw [beq_eq_false_iff_ne]; omega
      have H5 := Lib.hid (And.intro hr (And.intro hbel (And.intro hm3 hany)))
      clear hr hbel hmem hm hm1 hm2 hm3 hm4 hany
      go_wp2_with (fail)
      refine (C.out.1 m _).mono ?_
      rintro e w2 ⟨B, d, rfl, hown2, hb2⟩
      rw [H5.out.2.2.1]
      have hr2 := hown2.rd
      have hany := H5.out.2.2.2
      have hra := H5.out.1.below hb2
      have hbel := bThen H5.out.2.1 hb2
      have hc2 : w2.cell? (ad.add j) = some (.int .u64 m) := (hb2.cell (by rw [block_add]; exact hbk)).trans hc
      have hbk2 : ad.block < w2.heap.size := Nat.lt_of_lt_of_le hbk hb2.size
      generalize (besF m).1 = ys at *
      have H6 := Lib.hid (And.intro hra (And.intro hbel hany))
      clear hown2 H5 hc hbk hra hbel hany hb2
      go_wp2_with (fail)
      go_loop [14, 15] (fun s i => ∃ q : Nat, q ≤ ys.length ∧ i = .int .i64 q ∧ s = .bool (anyB x ys q)) (fun _ i => ys.length - (intOf i).toNat)
      case atStart => exact ⟨0, by omega, rfl, rfl⟩
      case round =>
        obtain ⟨q, hq, rfl, rfl⟩ := hrel
        have hnx : anyB x ys (q + 1) = (anyB x ys q || (ys.getD q 0 == (x : Int))) := rfl
        have NX := Lib.hid hnx
        clear hnx
        by_cases hqt : q < ys.length
        · obtain ⟨bd, rfl, hbk3, hc3⟩ := hr2.at_ hqt
          generalize ys.getD q 0 = y at *
          cases hany : anyB x ys q with
          | true =>
            rw [hany] at NX
            clear hany
            go_wp2_with (fail)
            go_round
            case rel => exact ⟨q + 1, by omega, by go_num, by rw [NX.out]; rfl⟩
            case measure => simp [intOf]; omega
          | false =>
            rw [hany] at NX
            clear hany
            go_wp2_with (fail)
            go_round
            case rel => exact ⟨q + 1, by omega, by go_num, by rw [NX.out]; rfl⟩
            case measure => simp [intOf]; omega
        · obtain rfl : q = ys.length := by omega
          have hany := H6.out.2.2
          rw [hany]
          clear hany hqt
          go_wp2_with (fail)
          go_roundw
          case rel => exact ⟨j + 1, by omega, by go_num, H6.out.1, H6.out.2.1⟩
          case measure => simp [intOf]; omega
    · have H5 := Lib.hid hbel
      clear hr hbel
      go_wp2_with (fail)
      refine (small_any a b _ C.out.2.1 C.out.2.2.1).mono ?_
      rintro e w2 ⟨rfl, hb2⟩
      have hsa := C.out.2.2.2.1
      have hsb := C.out.2.2.2.2.1
      generalize a.tmod 8388608 = x1 at *
      generalize b.tmod 8388608 = y1 at *
      go_wp2_with (fail)
      refine (spot_any x1 y1 _ hsa hsb).mono ?_
      rintro e w3 ⟨rfl, hb3⟩
      have hB3 : Below w.heap.size w w3 := bThen (bThen H5.out hb2) hb3
      have q1 := fun w => turn_any x1 y1 (4 * k) w hsa hsb (by omega) (by omega)
      rw [turn_four] at q1
      have q2 := fun w => turn_any x1 y1 k w hsa hsb (by omega) (by omega)
      have tk := tw_sw k (z := (x1, y1)) ⟨hsa, hsb⟩
      have q3 := fun w => turn_any (Pl.turnF (x1, y1) k).1 (Pl.turnF (x1, y1) k).2 1 w tk.1 tk.2 (by omega) (by omega)
      have e3 : Pl.turnF ((Pl.turnF (x1, y1) k).1, (Pl.turnF (x1, y1) k).2) 1 = Pl.turnF (x1, y1) (k + 1) := turn_one (x1, y1) k
      rw [e3] at q3
      have q4 := fun w => turn_any x1 y1 (k + 1) w hsa hsb (by omega) (by omega)
      have tk1 := tw_sw (k + 1) (z := (x1, y1)) ⟨hsa, hsb⟩
      have f1 := fl_self hsa
      have f2 := fl_self hsb
      have f3 := fl_self tk1.1
      have f4 := fl_self tk1.2
      have Q := Lib.hid (And.intro q1 (And.intro q2 (And.intro q3 q4)))
      clear q1 q2 q3 q4 e3 tk tk1 hsa hsb hb2 hb3
      go_wp2_with (fail)
      refine (Q.out.1 _).mono ?_
      rintro e w' ⟨rfl, rfl⟩
      go_wp2_with (fail)
      refine (Q.out.2.1 _).mono ?_
      rintro e w' ⟨rfl, rfl⟩
      go_wp2_with (fail)
      refine (Q.out.2.2.1 _).mono ?_
      rintro e w' ⟨rfl, rfl⟩
      go_wp2_with (fail)
      refine (Q.out.2.2.2 _).mono ?_
      rintro e w' ⟨rfl, rfl⟩
      go_wp2_with (fail)
      refine (lives_any _).mono ?_
      rintro e w' ⟨rfl, rfl⟩
      go_wp2_with (fail)
      go_ret
      exact ⟨rfl, hB3⟩

theorem planeOf_int (n : Int) (w : World) (hn : 0 ≤ n ∧ n ≤ 18446744073709551615) :
    Calls Try.prog 7 #[.int .u64 n] w fun e w' => e = .returned (.bool true) ∧ Below w.heap.size w w' := by
  obtain ⟨n, rfl⟩ := Int.eq_ofNat_of_zero_le hn.1
  exact planeOf_walk n w
end Go.Proofs.Ytedbbbbjajafgaa
