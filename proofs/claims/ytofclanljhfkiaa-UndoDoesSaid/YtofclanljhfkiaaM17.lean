/- Joined texts: TbI, TbK, TbL. -/
import Derived.Test.YtofclanljhfkiaaM16
import Derived.Test.YtofclanljhfkiaaM3
import Derived.Test.YtofclanljhfkiaaM8
import Derived.Deep.RegionHeld3
/- Plain: which coins a table has behind Put and Take; rising coins are told by what they are. -/
namespace Go.Proofs.Ytofclanljhfkiaa
open Go.RowKit Go.Proofs En Co
set_option linter.unusedVariables false
set_option linter.unusedSimpArgs false
set_option maxRecDepth 20000

theorem insF_perm (l : List Cn) (c : Cn) : (insF l c).Perm (c :: l) := by
  unfold insF
  refine List.perm_middle.trans ?_
  rw [List.takeWhile_append_dropWhile]
theorem flatten_at {ps : List (List Cn)} {n : Nat} (hn : n < ps.length) : ps.flatten = (ps.take n).flatten ++ (ps.getD n [] ++ (ps.drop (n + 1)).flatten) := by
  have h : ps[n]? = some (ps.getD n []) := by rw [List.getD_eq_getElem?_getD, List.getElem?_eq_getElem hn]; rfl
  have e := split_at h
  calc ps.flatten = (ps.take n ++ ps.getD n [] :: ps.drop (n + 1)).flatten := by rw [← e]
    _ = _ := by rw [List.flatten_append, List.flatten_cons]
theorem cutF_flat (l : List Cn) : (cutF l).flatten = l := by
  unfold cutF
  split
  · simp
  · simp
theorem putF2_perm (ps : List (List Cn)) (c : Cn) : (putF2 ps c).flatten.Perm (c :: ps.flatten) := by
  unfold putF2
  split
  · rename_i h
    rw [List.eq_nil_of_length_eq_zero h]
    exact List.Perm.refl _
  · rename_i h
    have hn := pageNk_lt ps c.p ps.length (by omega)
    rw [List.flatten_append, List.flatten_append, cutF_flat, flatten_at hn, List.append_assoc]
    refine List.Perm.trans (List.Perm.append_left _ (List.Perm.append_right _ (insF_perm _ c))) ?_
    exact List.perm_middle
theorem lostF_flat (ps : List (List Cn)) (p : Pt) : (takeF2 ps p).flatten = lostF ps.flatten p := by
  unfold takeF2 lostF
  induction ps with
  | nil => rfl
  | cons l r ih =>
    rw [List.map_cons, List.flatten_cons, List.filter_append, List.filter_cons]
    split
    · rw [List.flatten_cons, ih]
    · rename_i h
      have h0 : (l.filter (fun c => decide (c.p ≠ p))) = [] := by
        have : ¬ 0 < (l.filter (fun c => decide (c.p ≠ p))).length := by simpa using h
        exact List.eq_nil_of_length_eq_zero (by omega)
      rw [ih, h0, List.nil_append]
theorem lost_perm {l : List Cn} {p : Pt} {c : Cn} (h : Rise (l.map Cn.p)) (hc : c ∈ l) (hp : c.p = p) : (c :: lostF l p).Perm l := by
  obtain ⟨i, hi, e⟩ := List.getElem_of_mem hc
  have hi2 : l[i]? = some c := by rw [List.getElem?_eq_getElem hi, e]
  rw [lostF_erase h hi2 hp, List.eraseIdx_eq_take_drop_succ]
  refine List.Perm.trans List.perm_middle.symm ?_
  rw [← e, ← List.drop_eq_getElem_cons hi, List.take_append_drop]
/-- what rises is told by what is in it -/
theorem rise_perm : ∀ {a b : List Cn}, a.Perm b → Rise (a.map Cn.p) → Rise (b.map Cn.p) → a = b := by
  intro a
  induction a with
  | nil => intro b h _ _; exact (List.nil_perm.1 h).symm
  | cons x r ih =>
    intro b h ha hb
    cases b with
    | nil => exact absurd h.symm (by simp)
    | cons y s =>
      have hxa := List.pairwise_cons.1 (show Rise (x.p :: r.map Cn.p) from ha)
      have hyb := List.pairwise_cons.1 (show Rise (y.p :: s.map Cn.p) from hb)
      have hxy : x = y := by
        have hx : x ∈ y :: s := h.subset (List.mem_cons_self ..)
        have hy : y ∈ x :: r := h.symm.subset (List.mem_cons_self ..)
        rcases List.mem_cons.1 hx with hx | hx
        · exact hx
        · rcases List.mem_cons.1 hy with hy | hy
          · exact hy.symm
          · have h1 := hyb.1 x.p (List.mem_map.2 ⟨x, hx, rfl⟩)
            have h2 := hxa.1 y.p (List.mem_map.2 ⟨y, hy, rfl⟩)
            rw [lessF_asymm h1] at h2
            cases h2
      subst hxy
      rw [ih ((List.perm_cons x).1 h) hxa.2 hyb.2]
theorem findF_perm {ps : List (List Cn)} {l : List Cn} (h : ps.flatten.Perm l) {p : Pt} (hn : ∀ c ∈ l, c.p ≠ p) : findF ps p = none := findF_none fun c hc => hn c (h.subset hc)
/-- Put, by what is in the table -/
theorem putM_ok {ps : List (List Cn)} {c : Cn} (h1 : mayO c.v c.l = true) (h2 : findF ps c.p = none) (h3 : ps.flatten.length < 2000) : putM ps c = (putF2 ps c, 0) := by
  unfold putM
  rw [if_pos h1, h2, if_neg (by decide), if_neg (by omega)]
theorem putM_arg {ps : List (List Cn)} {c : Cn} (h1 : mayO c.v c.l = false) : putM ps c = (ps, 2) := by
  unfold putM
  rw [if_neg (by rw [h1]; decide)]
theorem putM_twice {ps : List (List Cn)} {c d : Cn} (h1 : mayO c.v c.l = true) (h2 : findF ps c.p = some d) : putM ps c = (ps, 7) := by
  unfold putM
  rw [if_pos h1, h2]
  rfl
theorem putM_limit {ps : List (List Cn)} {c : Cn} (h1 : mayO c.v c.l = true) (h2 : findF ps c.p = none) (h3 : 2000 ≤ ps.flatten.length) : putM ps c = (ps, 3) := by
  unfold putM
  rw [if_pos h1, h2, if_neg (by decide), if_pos h3]
theorem takeM_some {ps : List (List Cn)} {p : Pt} {c : Cn} (h : findF ps p = some c) : takeM ps p = (takeF2 ps p, c, 0) := by unfold takeM; rw [h]
theorem takeM_none {ps : List (List Cn)} {p : Pt} (h : findF ps p = none) : takeM ps p = (ps, zeroCn, 6) := by unfold takeM; rw [h]
theorem takeF2_perm {ps : List (List Cn)} {p : Pt} {c : Cn} (hr : Rise (ps.flatten.map Cn.p)) (h : findF ps p = some c) : (c :: (takeF2 ps p).flatten).Perm ps.flatten := by
  rw [lostF_flat]
  exact lost_perm hr (findF_some h).1 (findF_some h).2
end Go.Proofs.Ytofclanljhfkiaa
/- Arguments that are coins, points, acts in a row, opened. -/
namespace Go.Proofs.Ytofclanljhfkiaa
open Go.RowKit Go.Proofs En Co Go.ChangeShapes Go.WideShapes Go.Joins
set_option linter.unusedVariables false
set_option linter.unusedSimpArgs false
set_option maxRecDepth 20000

theorem flat_get {α : Type} {cells : α → List Value} {size : Nat} : ∀ {xs : List α}, (∀ x ∈ xs, (cells x).length = size) → ∀ {i : Nat} {x : α}, xs[i]? = some x → ∀ {j : Nat}, j < size → (xs.flatMap cells)[i * size + j]? = (cells x)[j]?
  | [], _, i, x, h, _, _ => by simp at h
  | y :: r, hl, 0, x, h, j, hj => by
    obtain rfl : y = x := by simpa using h
    have := hl y (List.mem_cons_self ..)
    rw [List.flatMap_cons, Nat.zero_mul, Nat.zero_add, List.getElem?_append_left (by omega)]
  | y :: r, hl, i + 1, x, h, j, hj => by
    have h1 := hl y (List.mem_cons_self ..)
    have h2 : r[i]? = some x := by simpa using h
    rw [List.flatMap_cons, List.getElem?_append_right (by rw [h1, Nat.add_mul]; omega), h1, show (i + 1) * size + j - size = i * size + j by rw [Nat.add_mul]; omega]
    exact flat_get (fun z hz => hl z (List.mem_cons_of_mem _ hz)) h2 hj
theorem flat_len {α : Type} {cells : α → List Value} {size : Nat} : ∀ {xs : List α}, (∀ x ∈ xs, (cells x).length = size) → (xs.flatMap cells).length = xs.length * size
  | [], _ => by simp
  | y :: r, hl => by
    rw [List.flatMap_cons, List.length_append, hl y (List.mem_cons_self ..), flat_len (fun z hz => hl z (List.mem_cons_of_mem _ hz)), List.length_cons, Nat.add_mul]
    omega
/-- elements, each opened, are a row -/
theorem rows_of {α : Type} [Inhabited α] (cells : α → List Value) (ok : α → Prop) (size : Nat) {W : World} {a : Addr} {n : Nat} (h0 : 0 < size)
    (hx : ∀ i, i < n → ∃ x : α, (∀ j, j < size → W.cell? ((a.add (i * size)).add j) = (cells x)[j]?) ∧ (cells x).length = size ∧ ok x) :
    ∃ xs : List α, xs.length = n ∧ Rd W size (some a) n (xs.flatMap cells) ∧ (∀ x ∈ xs, ok x) ∧ ∀ x ∈ xs, (cells x).length = size := by
  have hf : ∃ f : Nat → α, ∀ i, i < n → (∀ j, j < size → W.cell? ((a.add (i * size)).add j) = (cells (f i))[j]?) ∧ (cells (f i)).length = size ∧ ok (f i) := by
    refine ⟨fun i => if h : i < n then Classical.choose (hx i h) else default, fun i h => ?_⟩
    simp only [h, dif_pos]
    exact Classical.choose_spec (hx i h)
  obtain ⟨f, hf⟩ := hf
  have hget : ∀ i, i < n → ((List.range n).map f)[i]? = some (f i) := fun i h => by rw [List.getElem?_map, List.getElem?_range h]; rfl
  have hlen : ∀ x ∈ (List.range n).map f, (cells x).length = size := by
    intro x hx2
    obtain ⟨i, hi, rfl⟩ := List.mem_map.1 hx2
    exact (hf i (List.mem_range.1 hi)).2.1
  refine ⟨(List.range n).map f, by simp, ⟨by rw [flat_len hlen]; simp, fun hn => ⟨a, rfl, ?_, ?_⟩⟩, ?_, hlen⟩
  · have h2 := (hf 0 hn).1 0 h0
    have h3 : 0 < (cells (f 0)).length := by rw [(hf 0 hn).2.1]; exact h0
    rw [List.getElem?_eq_getElem h3] at h2
    have := World.block_lt_of_cell? _ _ h2
    rwa [block_add, block_add] at this
  · intro j u hu
    have hj : j < n * size := by
      have := (List.getElem?_eq_some_iff.1 hu).1
      rw [flat_len hlen] at this
      simpa using this
    have hq : j / size < n := Nat.div_lt_of_lt_mul (by rw [Nat.mul_comm]; exact hj)
    have hr : j % size < size := Nat.mod_lt _ h0
    have e : j = j / size * size + j % size := by rw [Nat.mul_comm]; exact (Nat.div_add_mod j size).symm
    rw [e, flat_get hlen (hget _ hq) hr] at hu
    rw [e, ← add_add, (hf _ hq).1 _ hr, hu]
  · intro x hx2
    obtain ⟨i, hi, rfl⟩ := List.mem_map.1 hx2
    exact (hf i (List.mem_range.1 hi)).2.2

instance : Inhabited Cm := ⟨⟨zeroCn, none, 0⟩⟩
instance : Inhabited Pt := ⟨zeroPt⟩
theorem bytes_coin : Try.prog.bytesOf 57 = 80 := by kernel_rfl
section
variable {H : Type} {enc : TypeId × Value → H} {W : World} {base : Nat} {v : Value} {d : DataW H} {ps : List MemPlace}
/-- coins in a row, at a value -/
theorem open_coins {fuel : Nat} {y : DataW H × List MemPlace} (h : DataW.trod enc Try.prog W 0 (fun _ => true) true fuel 22 [v] = some y) (hs : Small Try.prog 22 y.1) :
    ∃ B n c hs, v = .slice B n c ∧ ArgP W B n c hs ∧ c ≤ 1759218604392 := by
  rcases open_elems Try.underlying22 h hs with rfl | ⟨a, len, cap, rfl, hl, hm, hr, hi⟩
  · exact ⟨none, 0, 0, [], rfl, ⟨Rd.nil _ _ _, (fun _ h => by cases h), rfl, Nat.le_refl _, Nat.zero_le _⟩, Nat.zero_le _⟩
  · rw [bytes_coin] at hr
    unfold reachBytes at hr
    rw [cells_coin] at hi
    obtain ⟨xs, h1, h2, h3, _⟩ := rows_of cc (fun m => m.ok W) 37 (W := W) (a := a) (n := len) (by omega) (fun i hlt => by
      obtain ⟨cs', y, q, h1, h2, h3, h4⟩ := hi i hlt
      obtain ⟨m, hm, rfl, _⟩ := open_cn h1 h3 h4
      exact ⟨m, h2, h1, hm⟩)
    exact ⟨some a, len, cap, xs, rfl, ⟨h2, h3, h1, hl, hm⟩, by omega⟩
theorem arg_coins (hval : Value.okWide Try.prog W .any base 22 v) (h : DataW.Trod enc Try.prog W 0 (fun _ => true) true 22 v d ps) (hs : Small Try.prog 22 d) :
    ∃ B n c hs, v = .slice B n c ∧ (ArgP W B n c hs ∧ c ≤ 1759218604392) := by
  obtain ⟨A, n, c, rfl⟩ := okWide_slice Try.underlying22 hval
  obtain ⟨fuel, hf⟩ := h
  exact open_coins (by simpa [Value.cells] using hf) hs
end
end Go.Proofs.Ytofclanljhfkiaa
/- The reference's Same: lists of coins. -/
namespace Go.Proofs.Ytofclanljhfkiaa
open Go.RowKit Go.Proofs En Co
set_option linter.unusedVariables false
set_option linter.unusedSimpArgs false
set_option maxRecDepth 20000
attribute [local go_sem ↓] ld_point_eq ld_coin_eq ld_hash_eq st_point_eq st_coin_eq bd_point_eq bd_coin_eq eq_point_eq ne_point_eq al_coin_eq al_point_eq bs_coin_eq
attribute [local go_sem] ld_point_run ld_coin_run ld_hash_run st_point_run st_coin_run bd_point_zero bd_coin_zero bd_point_of bd_coin_of hash_at rowIs_34 rowIs_37 rowIs_both hasAt_both cellsAt_both eq_point_run ne_point_run guard_pt al_coin_run al_point_run al_coin_row al_point_row nil_bytes nil_coins bs_coin_run

abbrev StDD (a1 : Addr) (m1 : Cm) (a2 : Addr) (m2 : Cm) (w' : World) : Prop := (ld_coin (.pointer (some a1))).run Try.prog w' = .ok (.agg (cc m1).toArray) w' ∧ (ld_coin (.pointer (some a2))).run Try.prog w' = .ok (.agg (cc m2).toArray) w'
theorem take_same {α : Type} [DecidableEq α] {xs ys : List α} {j : Nat} {x y : α} (h : xs.take j = ys.take j) (hx : xs[j]? = some x) (hy : ys[j]? = some y) (e : x = y) : xs.take (j + 1) = ys.take (j + 1) := by
  rw [take_next hx, take_next hy, h, e]

set_option maxRecDepth 20000 in
set_option maxHeartbeats 1000000 in
theorem rsameL_any (B : Option Addr) (n c : Nat) (hs : List Cm) (B2 : Option Addr) (n2 c2 : Nat) (ks : List Cm) (w : World) (ha : ArgP w B n c hs) (hb : ArgP w B2 n2 c2 ks) :
    Calls Try.prog 25 #[.slice B n c, .slice B2 n2 c2] w fun e w' => e = .returned (.bool (decide (cns hs = cns ks))) ∧ Below w.heap.size w w' := by
  have l1 := ha.len
  have l2 := hb.len
  have k1 : n ≤ 9223372036854775807 := by have := ha.cap; have := ha.max; unfold maxLen at this; omega
  by_cases hn : n = n2
  · subst hn
    have d0 : ((n : Int) == (n : Int)) = true := beq_self_eq_true _
    have HT := Lib.hid (And.intro ha (And.intro hb (And.intro l1 l2)))
    clear ha hb l1 l2
    go_enter Try.func25, Try.ntmps25
    go_wp2_with (fail)
    go_loopw [5] (fun i wr => ∃ j : Nat, j ≤ n ∧ i = .int .i64 j ∧ (cns hs).take j = (cns ks).take j ∧ Below w.heap.size w wr) (fun i _ => n - (intOf i).toNat)
    case atStart => exact ⟨0, by omega, rfl, rfl, Below.refl _ _⟩
    case round =>
      obtain ⟨j, hj, rfl, htk, hbel⟩ := hrel
      by_cases hlt : j < n
      · obtain ⟨ad, m, rfl, hm, hok, hbk, hc⟩ := (HT.out.1.below hbel).at_ hlt
        obtain ⟨ad2, m2, rfl, hm2, hok2, hbk2, hc2⟩ := (HT.out.2.1.below hbel).at_ hlt
        have hS0 : StDD (ad.add (j * 37)) m (ad2.add (j * 37)) m2 wr.drew := ⟨ld_coin_at wr.drew _ m hok.c.p hc, ld_coin_at wr.drew _ m2 hok2.c.p hc2⟩
        have i1 : (0 : Int) ≤ (j : Int) := by omega
        have i2 : (j : Int) < (n : Int) := by omega
        have e1 : (cns hs)[j]? = some m.c := by unfold cns; rw [List.getElem?_map, hm]; rfl
        have e2 : (cns ks)[j]? = some m2.c := by unfold cns; rw [List.getElem?_map, hm2]; rfl
        have RS := rsame06_any m m2 wr.drew (hok.below (Below.refl _ _).drew) (hok2.below (Below.refl _ _).drew)
        obtain ⟨r, hr⟩ : ∃ r, decide (m.c = m2.c) = r := ⟨_, rfl⟩
        rw [hr] at RS
        have X := Lib.hid (And.intro htk (And.intro hbel (And.intro e1 (And.intro e2 (And.intro hr (And.intro RS (And.intro hok (And.intro hok2 (And.intro hbk (And.intro hbk2 (And.intro hc hc2)))))))))))
        clear htk hbel e1 e2 hr RS hm hm2 hok hok2 hc hc2
        go_wp2_with (fail)
        go_region_held3 (fun w' => StDD (ad.add (j * 37)) m (ad2.add (j * 37)) m2 w') (first | exact hS1 | exact hS0)
          (first | (go_at_call 42; (with_reducible refine (X.out.2.2.2.2.2.1).mono ?_); rintro e w2 ⟨rfl, hb2⟩; have hS1 : StDD (ad.add (j * 37)) m (ad2.add (j * 37)) m2 w2 := ⟨ld_coin_at w2 _ m X.out.2.2.2.2.2.2.1.c.p (cells_below ((Below.refl _ _).drew.trans hb2) X.out.2.2.2.2.2.2.2.2.1 X.out.2.2.2.2.2.2.2.2.2.2.1), ld_coin_at w2 _ m2 X.out.2.2.2.2.2.2.2.1.c.p (cells_below ((Below.refl _ _).drew.trans hb2) X.out.2.2.2.2.2.2.2.2.2.1 X.out.2.2.2.2.2.2.2.2.2.2.2)⟩))
        rename_i hHeldX
        have Y := Lib.hid (bThen X.out.2.1 ((Below.refl wr.heap.size wr).drew.trans hb2))
        clear hHeldX hb2 hS0 hS1
        cases r with
        | false =>
          go_wp2_with (fail)
          go_ret
          have hne : ¬ cns hs = cns ks := by
            intro e
            have h1 := X.out.2.2.1
            rw [e, X.out.2.2.2.1] at h1
            exact of_decide_eq_false X.out.2.2.2.2.1 (Option.some.inj h1).symm
          rw [decide_eq_false hne]
          exact ⟨rfl, Y.out⟩
        | true =>
          go_wp2_with (fail)
          go_roundw
          case rel => exact ⟨j + 1, by omega, by go_num, take_same X.out.1 X.out.2.2.1 X.out.2.2.2.1 (of_decide_eq_true X.out.2.2.2.2.1), Y.out⟩
          case measure => simp [intOf]; omega
      · obtain rfl : j = n := by omega
        have e : cns hs = cns ks := by
          rw [List.take_of_length_le (by rw [cns_length, HT.out.2.2.1]; exact Nat.le_refl _), List.take_of_length_le (by rw [cns_length, HT.out.2.2.2]; exact Nat.le_refl _)] at htk
          exact htk
        have E := Lib.hid (And.intro e hbel)
        clear e hbel htk
        go_wp2_with (fail)
        go_ret
        rw [decide_eq_true E.out.1]
        exact ⟨rfl, E.out.2⟩
  · have d0 : ((n : Int) == (n2 : Int)) = false := by simp; omega
    have hne : ¬ cns hs = cns ks := fun e => hn (by rw [← l1, ← l2, ← cns_length hs, ← cns_length ks, e])
    have HN := Lib.hid hne
    clear ha hb hne l1 l2
    go_enter Try.func25, Try.ntmps25
    go_wp2_with (fail)
    go_ret
    rw [decide_eq_false HN.out]
    exact ⟨rfl, Below.refl _ _⟩
end Go.Proofs.Ytofclanljhfkiaa
