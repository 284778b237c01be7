/- What code.Put answers. -/
import Derived.Test.YtpbnodomopdjhaaCodeB
namespace Go.Proofs.Ytpbnodomopdjhaa
open Go.RowKit Go.Proofs En Cd
set_option linter.unusedVariables false
set_option linter.unusedSimpArgs false

theorem sts_take_snoc (hs : List Hd) (j : Nat) (x : Hd) (hx : hs[j]? = some x) : sts (hs.take (j + 1)) = sts (hs.take j) ++ [x.st] := by
  have hj := (List.getElem?_eq_some_iff.1 hx).1
  have e : hs[j] = x := by rw [List.getElem?_eq_getElem hj] at hx; exact Option.some.inj hx
  rw [List.take_succ_eq_append_getElem hj, sts_append, e]
  rfl
theorem allF_snoc (l : List Stp) (s : Stp) : allF (l ++ [s]) = allF l ++ oneF s := by unfold allF; simp
theorem all_may {w : World} {hs : List Hd} (h : ∀ x ∈ hs, x.ok w) : (sts hs).all mayF = !(hs.any fun x => !mayB x.op x.n) := by
  induction hs with
  | nil => rfl
  | cons x hs ih =>
    show (mayF x.st && (sts hs).all mayF) = !((!mayB x.op x.n) || hs.any fun x => !mayB x.op x.n)
    rw [ih fun y hy => h y (List.mem_cons_of_mem _ hy), ← mayB_of (h x (List.mem_cons_self ..))]
    cases mayB x.op x.n <;> simp
theorem oneF_length (s : Stp) (h : mayF s = true) : (oneF s).length ≤ 3003 := by
  unfold mayF at h
  unfold oneF
  split
  · rename_i h1
    rw [if_pos h1] at h
    have := of_decide_eq_true h
    split <;> simp <;> omega
  · simp
theorem allF_length (l : List Stp) (h : l.all mayF = true) : (allF l).length ≤ 3003 * l.length := by
  induction l with
  | nil => simp [allF]
  | cons s l ih =>
    have h1 : (mayF s && l.all mayF) = true := h
    rw [Bool.and_eq_true] at h1
    have h2 := oneF_length s h1.1
    have h3 := ih h1.2
    show (oneF s ++ allF l).length ≤ _
    rw [List.length_append, List.length_cons]
    omega
theorem all_take {l : List Stp} (h : l.all mayF = true) (j : Nat) : (l.take j).all mayF = true := by
  rw [List.all_eq_true] at *
  exact fun x hx => h x (List.mem_of_mem_take hx)

theorem may_cases {w : World} {x : Hd} (hk : x.ok w) (h : mayF x.st = true) : (x.op = 1 ∧ x.n ≤ 3000) ∨ (x.op ≠ 1 ∧ 2 ≤ x.op ∧ x.op ≤ 20 ∧ x.n = 0) := by
  rw [← mayB_of hk] at h
  unfold mayB at h
  split at h
  · rename_i h1
    exact .inl ⟨h1, of_decide_eq_true h⟩
  · rename_i h1
    exact .inr ⟨h1, of_decide_eq_true h⟩
theorem may_at {hs : List Hd} (h : (sts hs).all mayF = true) {j : Nat} {x : Hd} (hx : hs[j]? = some x) : mayF x.st = true :=
  List.all_eq_true.1 h _ (List.mem_map.2 ⟨x, List.mem_of_getElem? hx, rfl⟩)
theorem grown_cell {w w' : World} {row : Option Nat} (hg : w.grownBy w' row) {a : Addr} {v : Value} (hc : w.cell? a = some v) (hlt : a.block < w.heap.size) (hne : row ≠ some a.block) : w'.cell? a = some v := by
  rw [← hc]
  exact World.cell?_of_block (hg.block _ hlt fun e => hne e.symm)
theorem box_cell (w : World) (cs : Array Value) (t : TypeId) (o : Obj) (j : Nat) : ((w.alloc (.cells cs t)).alloc o).cell? ⟨w.heap.size, j, none⟩ = cs[j]? := by
  refine cell_of_row _ _ _ _ t (0, 0) ?_
  rw [Below.heap_alloc (w.alloc (.cells cs t)) o _ (by simp)]
  exact heap_alloc_new w _
theorem rd_lit2 (w : World) (o : Obj) (xs : List Int) (m : Nat) (hl : m ≤ 140737488355328) (hs : xs.length = m) : RdN ((w.alloc o).alloc (.cells (ns .u8 xs).toArray 5)) .u8 (some ⟨w.heap.size + 1, 0, none⟩) m xs := by
  have h := rd_lit (w.alloc o) xs m hl hs
  have e : (w.alloc o).heap.size = w.heap.size + 1 := by simp
  rw [e] at h
  exact h

set_option maxHeartbeats 1000000 in
theorem cput_any (B : Option Addr) (m c : Nat) (hs : List Hd) (w : World) (hb : ArgS w B m c hs) :
    Calls Try.prog 36 #[.slice B m c] w fun e w' => ∃ A k, e = .returned (.tuple #[.slice A (Cd.putF (sts hs)).1.length k, .int .i64 (Cd.putF (sts hs)).2]) ∧ OwnB w' w.heap.size A (Cd.putF (sts hs)).1.length k (Cd.putF (sts hs)).1 ∧ Below w.heap.size w w' := by
  have hlen := hb.len
  have hml := hb.length
  have hsl : (sts hs).length = m := by unfold sts; rw [List.length_map]; exact hml
  have hmay := all_may hb.ok
  have C := contains_bad B m c hs w hb
  cases hr : hs.any (fun x => !mayB x.op x.n) with
  | true =>
    rw [hr] at C hmay
    have hp : Cd.putF (sts hs) = ([], 2) := by unfold Cd.putF; rw [if_neg (by rw [hmay]; simp)]
    rw [hp]
    have C := Lib.hid C
    clear hp hmay hr
    go_enter Try.func36, Try.ntmps36
    go_wp2_with (fail)
    refine C.out.mono ?_
    rintro e w' ⟨rfl, hbel⟩
    have hz := hbel.size
    go_wp2_with (fail)
    go_ret2
    exact ⟨none, 0, rfl, OwnN.nil _ _ _ _, hbel⟩
  | false =>
    rw [hr] at C hmay
    have C := Lib.hid C
    by_cases h200 : m ≤ 200
    · have hall : (sts hs).all mayF = true := by rw [hmay]; rfl
      have hp : Cd.putF (sts hs) = (allF (sts hs), 0) := by unfold Cd.putF; rw [if_pos hall, if_pos (by omega)]
      rw [hp]
      have d1 : decide (m > 200) = false := decide_eq_false (by omega)
      have ALL := Lib.hid (And.intro hall (And.intro hml hb))
      clear hp hmay hr hall hml hsl
      go_enter Try.func36, Try.ntmps36
      go_wp2_with (fail)
      refine C.out.mono ?_
      rintro e w1 ⟨rfl, hbel⟩
      have hz := hbel.size
      clear C
      go_wp2_with (fail)
      go_loopw [4, 15] (fun v i wr => ∃ j : Nat, j ≤ m ∧ i = .int .i64 j ∧ (∃ A k n, v = .slice A n k ∧ OwnB wr w.heap.size A n k (allF (sts (hs.take j)))) ∧ Below w.heap.size w wr) (fun _ i _ => m - (intOf i).toNat)
      case atStart => exact ⟨0, by omega, rfl, ⟨none, 0, 0, rfl, OwnN.nil _ _ _ _⟩, hbel⟩
      case round =>
        clear hbel hz
        obtain ⟨j, hj, rfl, ⟨A, k, n, rfl, ho⟩, hbel⟩ := hrel
        by_cases hlt : j < m
        · obtain ⟨ad, x, rfl, hx, hok', hbk, hc0, hc1, hc2⟩ := (hb.below hbel).at_ hlt
          have hok := ALL.out.2.2.ok x (List.mem_of_getElem? hx)
          have hop := hok.1
          have hxl := hok.2.len
          have hxc := hok.2.cap
          have hz := hbel.size
          have hn : n ≤ 3003 * j := by
            have h1 := ho.len
            have h2 := allF_length _ (all_take ALL.out.1 j)
            have h3 : (sts hs).take j = sts (hs.take j) := by unfold sts; rw [List.map_take]
            have h4 : ((sts hs).take j).length ≤ j := by rw [List.length_take]; omega
            rw [h3] at h2 h4
            omega
          have hsn := sts_take_snoc hs j x hx
          have hcs := may_cases hok (may_at ALL.out.1 hx)
          have hpl := hok.2.rd.len
          have X := Lib.hid (And.intro hsn (And.intro hok hpl))
          clear hsn hx hok hok' hpl
          rcases hcs with ⟨h1, h3⟩ | ⟨h1, h3, h4, h5⟩
          · have t1 : (x.op != 1) = false := by rw [bne_eq_false_iff_eq]; exact h1
            by_cases h127 : x.n ≤ 127
            · have t2 : decide (x.n ≤ 127) = true := decide_eq_true h127
              have t3 : decide ((x.n : Int) ≤ 127) = true := decide_eq_true (by omega)
              have e9 : (x.n : Int) % 256 = x.n := Int.emod_eq_of_lt (by omega) (by omega)
              go_wp2_with (at_builtin; refine Stop.mk ?_)
              refine Stop.out ?_
              refine wpList_appN _ rfl (.tmp 46) (.tmp 49) _ rfl w.heap.size 5 .u8 1 Try.underlying23 inf_b A n k _ rfl ((OwnN.alloc ho _).alloc _) (some ⟨wr.heap.size + 1, 0, none⟩) 1 1 [(x.n : Int)] rfl
                (rd_lit2 wr _ [(x.n : Int)] 1 (by omega) rfl) (by unfold maxLen; omega) (by omega) (by simp; omega) ?_
              intro A1 k1 w2 ho1 hg _
              have hb2 : Below w.heap.size w w2 := (belA (belA hbel _ (Nat.le_refl _)) _ (Nat.le_refl _)).grown hg (by simp; omega) (fun g hg => (OwnN.lt ho g hg).1)
              have hcb1 : w2.cell? ⟨wr.heap.size, 1, none⟩ = some (.slice x.A x.n x.c) := by
                refine grown_cell hg ?_ (by simp; omega) (fun e => by have := (OwnN.lt ho _ e).2; simp at this)
                exact box_cell _ _ _ _ _
              have hz2 := hb2.size
              clear hg
              go_wp2_with (at_builtin; refine Stop.mk ?_)
              refine Stop.out ?_
              refine wpList_appN _ rfl (.tmp 51) (.tmp 53) _ rfl w.heap.size 5 .u8 1 Try.underlying23 inf_b A1 (n + 1) k1 _ rfl ho1 x.A x.n x.c x.p rfl
                (X.out.2.1.2.below hb2).rd (by unfold maxLen; omega) (by omega) hz2 ?_
              intro A3 k3 w3 ho3 hg _
              have hb3 : Below w.heap.size w w3 := hb2.grown hg hz2 (fun g hg => (OwnN.lt ho1 g hg).1)
              have hz3 := hb3.size
              have H3 := Lib.hid (And.intro ho3 hb3)
              clear hg ho1 hb2 ho3 hb3 ho hbel
              go_wp2_with (fail)
              go_roundw
              case rel =>
                refine ⟨j + 1, by omega, by go_num, ⟨A3, k3, _, rfl, ?_⟩, H3.out.2⟩
                rw [X.out.1, allF_snoc]
                have e : oneF x.st = [(x.n : Int)] ++ x.p := by unfold oneF Hd.st; rw [if_pos h1, X.out.2.2, if_pos h127]; rfl
                rw [e, ← List.append_assoc]
                exact H3.out.1
              case measure => simp [intOf]; omega
            · have t2 : decide (x.n ≤ 127) = false := decide_eq_false h127
              have t3 : decide ((x.n : Int) ≤ 127) = false := decide_eq_false (by omega)
              have e9 : (x.n : Int) / 256 % 256 = (x.n : Int) / 256 := Int.emod_eq_of_lt (by omega) (by omega)
              go_wp2_with (at_builtin; refine Stop.mk ?_)
              refine Stop.out ?_
              refine wpList_appN _ rfl (.tmp 22) (.tmp 28) _ rfl w.heap.size 5 .u8 1 Try.underlying23 inf_b A n k _ rfl ((OwnN.alloc ho _).alloc _) (some ⟨wr.heap.size + 1, 0, none⟩) 3 3 [128, (x.n : Int) % 256, (x.n : Int) / 256] rfl
                (rd_lit2 wr _ [128, (x.n : Int) % 256, (x.n : Int) / 256] 3 (by omega) rfl) (by unfold maxLen; omega) (by omega) (by simp; omega) ?_
              intro A1 k1 w2 ho1 hg _
              have hb2 : Below w.heap.size w w2 := (belA (belA hbel _ (Nat.le_refl _)) _ (Nat.le_refl _)).grown hg (by simp; omega) (fun g hg => (OwnN.lt ho g hg).1)
              have hcb1 : w2.cell? ⟨wr.heap.size, 1, none⟩ = some (.slice x.A x.n x.c) := by
                refine grown_cell hg ?_ (by simp; omega) (fun e => by have := (OwnN.lt ho _ e).2; simp at this)
                exact box_cell _ _ _ _ _
              have hz2 := hb2.size
              clear hg
              go_wp2_with (at_builtin; refine Stop.mk ?_)
              refine Stop.out ?_
              refine wpList_appN _ rfl (.tmp 51) (.tmp 53) _ rfl w.heap.size 5 .u8 1 Try.underlying23 inf_b A1 (n + 3) k1 _ rfl ho1 x.A x.n x.c x.p rfl
                (X.out.2.1.2.below hb2).rd (by unfold maxLen; omega) (by omega) hz2 ?_
              intro A3 k3 w3 ho3 hg _
              have hb3 : Below w.heap.size w w3 := hb2.grown hg hz2 (fun g hg => (OwnN.lt ho1 g hg).1)
              have hz3 := hb3.size
              have H3 := Lib.hid (And.intro ho3 hb3)
              clear hg ho1 hb2 ho3 hb3 ho hbel
              go_wp2_with (fail)
              go_roundw
              case rel =>
                refine ⟨j + 1, by omega, by go_num, ⟨A3, k3, _, rfl, ?_⟩, H3.out.2⟩
                rw [X.out.1, allF_snoc]
                have e : oneF x.st = [128, (x.n : Int) % 256, (x.n : Int) / 256] ++ x.p := by unfold oneF Hd.st; rw [if_pos h1, X.out.2.2, if_neg h127]; rfl
                rw [e, ← List.append_assoc]
                exact H3.out.1
              case measure => simp [intOf]; omega
          · have t1 : (x.op != 1) = true := by rw [bne_iff_ne]; exact h1
            have e9 : (128 + x.op - 1) % 256 = 127 + x.op := by omega
            go_wp2_with (at_builtin; refine Stop.mk ?_)
            refine Stop.out ?_
            refine wpList_appN _ rfl (.tmp 34) (.tmp 41) _ rfl w.heap.size 5 .u8 1 Try.underlying23 inf_b A n k _ rfl ((OwnN.alloc ho _).alloc _) (some ⟨wr.heap.size + 1, 0, none⟩) 1 1 [128 + x.op - 1] rfl
              (rd_lit2 wr _ [128 + x.op - 1] 1 (by omega) rfl) (by unfold maxLen; omega) (by omega) (by simp; omega) ?_
            intro A1 k1 w2 ho1 hg _
            have hb2 : Below w.heap.size w w2 := (belA (belA hbel _ (Nat.le_refl _)) _ (Nat.le_refl _)).grown hg (by simp; omega) (fun g hg => (OwnN.lt ho g hg).1)
            have H3 := Lib.hid (And.intro ho1 hb2)
            clear hg ho1 hb2 ho hbel
            go_wp2_with (fail)
            go_roundw
            case rel =>
              refine ⟨j + 1, by omega, by go_num, ⟨A1, k1, _, rfl, ?_⟩, H3.out.2⟩
              rw [X.out.1, allF_snoc]
              have e : oneF x.st = [128 + x.op - 1] := by unfold oneF Hd.st; rw [if_neg h1]; congr 1; show 127 + x.op = _; omega
              rw [e]
              exact H3.out.1
            case measure => simp [intOf]; omega
        · obtain rfl : j = m := by omega
          have e : hs.take j = hs := List.take_of_length_le (by rw [ALL.out.2.1]; exact Nat.le_refl _)
          rw [e] at ho
          have hlo := ho.len
          have H3 := Lib.hid (And.intro ho (And.intro hbel hlo))
          clear ho hbel hlo e
          go_wp2_with (fail)
          go_ret2
          have hl := H3.out.2.2
          subst hl
          exact ⟨A, k, rfl, H3.out.1, H3.out.2.1⟩
    · have hp : Cd.putF (sts hs) = ([], 3) := by unfold Cd.putF; rw [if_pos (by rw [hmay]; rfl), if_neg (by omega)]
      rw [hp]
      have d1 : decide (m > 200) = true := decide_eq_true (by omega)
      have d2 : decide ((m : Int) > 200) = true := decide_eq_true (by omega)
      clear hp hmay hr
      go_enter Try.func36, Try.ntmps36
      go_wp2_with (fail)
      refine C.out.mono ?_
      rintro e w' ⟨rfl, hbel⟩
      have hz := hbel.size
      clear C
      go_wp2_with (fail)
      go_ret2
      exact ⟨none, 0, rfl, OwnN.nil _ _ _ _, hbel⟩
end Go.Proofs.Ytpbnodomopdjhaa
