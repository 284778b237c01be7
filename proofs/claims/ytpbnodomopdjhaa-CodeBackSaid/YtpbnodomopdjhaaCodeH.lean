/- Steps of one's own; what the reference's Read answers. -/
import Derived.Test.YtpbnodomopdjhaaCodeG
namespace Go.Proofs.Ytpbnodomopdjhaa
open Go.RowKit Go.Proofs En Cd
set_option linter.unusedVariables false
set_option linter.unusedSimpArgs false

theorem inf_step : (Try.prog.info? 55).map (fun i => (i.zero, i.size, i.bytes)) = some (some (.agg #[.int .u8 0, .slice none 0 0]), 2, 32) := by kernel_rfl

/-- steps of one's own, each with bytes of one's own -/
structure OwnS (w : World) (base : Nat) (B : Option Addr) (m c : Nat) (hs : List Hd) : Prop where
  row : Own w base 55 2 (fun _ => True) B m c (hcells hs)
  ok : ∀ x ∈ hs, (0 ≤ x.op ∧ x.op ≤ 255) ∧ OwnB w base x.A x.n x.c x.p ∧ IsB x.p ∧ x.n ≤ 140737488355328
theorem OwnS.nil (w : World) (base : Nat) : OwnS w base none 0 0 [] := ⟨Own.nil _ _ _ _ _, fun _ h => by cases h⟩
theorem OwnS.below {w w' : World} {base : Nat} {B : Option Addr} {m c : Nat} {hs : List Hd} (h : OwnS w base B m c hs) (hb : Below w.heap.size w w') : OwnS w' base B m c hs :=
  ⟨h.row.below hb, fun x hx => ⟨(h.ok x hx).1, (h.ok x hx).2.1.below hb, (h.ok x hx).2.2⟩⟩
theorem OwnS.alloc {w : World} {base : Nat} {B : Option Addr} {m c : Nat} {hs : List Hd} (h : OwnS w base B m c hs) (o : Obj) : OwnS (w.alloc o) base B m c hs := h.below ((Below.refl _ _).alloc (Nat.le_refl _) o)
theorem OwnS.drewN {w : World} {base : Nat} {B : Option Addr} {m c : Nat} {hs : List Hd} (h : OwnS w base B m c hs) (k : Nat) : OwnS (w.drewN k) base B m c hs := ⟨h.row, h.ok⟩
theorem OwnS.mono {w : World} {base base' : Nat} {B : Option Addr} {m c : Nat} {hs : List Hd} (h : OwnS w base B m c hs) (hb : base' ≤ base) : OwnS w base' B m c hs :=
  ⟨Own.mono h.row hb, fun x hx => ⟨(h.ok x hx).1, OwnN.mono (h.ok x hx).2.1 hb, (h.ok x hx).2.2⟩⟩
theorem OwnS.arg {w : World} {base : Nat} {B : Option Addr} {m c : Nat} {hs : List Hd} (h : OwnS w base B m c hs) (hm : m ≤ 4398046511104) : ArgS w B m c hs := by
  have hc := Own.len_cap h.row
  exact ⟨h.row.rd, fun x hx => ⟨(h.ok x hx).1, (h.ok x hx).2.1.rd, (h.ok x hx).2.2.1, (Own.len_cap (h.ok x hx).2.1).1, (Own.len_cap (h.ok x hx).2.1).2, (h.ok x hx).2.2.2⟩, hc.1, hc.2, hm⟩
theorem OwnS.len {w : World} {base : Nat} {B : Option Addr} {m c : Nat} {hs : List Hd} (h : OwnS w base B m c hs) : hs.length = m := by
  have := h.row.1
  rw [hcells_length] at this
  omega
/-- a step's row and a row of bytes are two blocks -/
theorem OwnS.ne {w : World} {base base' : Nat} {B A : Option Addr} {m c n d : Nat} {hs : List Hd} {p : List Int} (h : OwnS w base B m c hs) (hp : OwnB w base' A n d p) : ∀ g, blk A = some g → blk B ≠ some g := by
  intro g hg
  rcases hp.2 with ⟨rfl, _⟩ | ⟨g', cur, rfl, _, hh, _⟩
  · simp [blk] at hg
  · have e : g' = g := by simpa [blk] using hg
    subst e
    exact Own.ne_block h.row hh (by decide)

theorem hd_one (h : Hd) : ∀ u ∈ h.cells, u.oneCell' = true := by
  intro u hu
  unfold Hd.cells at hu
  rcases List.mem_cons.1 hu with rfl | hu
  · rfl
  · rcases List.mem_cons.1 hu with rfl | hu
    · rfl
    · cases hu

/-- one step is appended -/
theorem wpList_appS (w : World) {ops : Array Oper} {rest : List Oper} {o : Oper} {a : Act} {Q : Exit → Act → World → Prop} (hgd : o.guard = none) (s x : Operand)
    (ho : o.op = .call { callee := .builtin .append, args := #[s, x], argTypes := #[44, 44] })
    (base : Nat) (B : Option Addr) (m c : Nat) (hs : List Hd) (h1 : Hd) (hsv : a.eval s = .slice B m c) (hown : OwnS w base B m c hs)
    (g : Nat) (hx : a.eval x = .slice (some ⟨g, 0, none⟩) 1 1) (hg0 : g = w.heap.size) (hop : 0 ≤ h1.op ∧ h1.op ≤ 255) (hp : OwnB w base h1.A h1.n h1.c h1.p) (hB : IsB h1.p) (hn : h1.n ≤ 140737488355328)
    (hm : m ≤ 4000000000) (hbase : base ≤ w.heap.size)
    (h : ∀ B' c' w', OwnS w' base B' (m + 1) c' (hs ++ [h1]) → (w.alloc (.cells h1.cells.toArray 55)).grownBy w' (blk B) → wpList Try.prog ops Q rest (a.put o.dst (.slice B' (m + 1) c')) w') :
    wpList Try.prog ops Q (o :: rest) a (w.alloc (.cells h1.cells.toArray 55)) := by
  subst hg0
  obtain ⟨i, hi, hz, hsz, hby⟩ := info_of inf_step
  have hrd : Rd (w.alloc (.cells h1.cells.toArray 55)) 2 (some ⟨w.heap.size, 0, none⟩) 1 h1.cells :=
    (Own.lit (base := 0) (e := 55) (size := 2) (G := fun _ => True) w h1.cells.toArray 1 (Nat.zero_le _) (by decide) rfl (fun _ _ => trivial)).rd
  refine wpList_app _ hgd s x _ ho base 55 i _ 2 32 (fun _ => True) Try.underlying44 hi hz hsz hby rfl (by omega) (fun _ _ => trivial) B m c (hcells hs) hsv (hown.row.alloc _) _ 1 1 h1.cells hx hrd (hd_one h1) (fun _ _ => trivial)
    (by unfold maxLen; omega) (by omega) (by simp; omega) ?_
  intro B' c' w' h2 hg _
  refine h B' c' w' ⟨?_, ?_⟩ hg
  · rw [hcells_append, show hcells [h1] = h1.cells from by unfold hcells; simp]
    exact h2
  · intro y hy
    rcases List.mem_append.1 hy with hy | hy
    · obtain ⟨k1, k2, k3⟩ := hown.ok y hy
      exact ⟨k1, OwnN.grown (OwnN.alloc k2 _) hg (hown.ne k2), k3⟩
    · rcases List.mem_singleton.1 hy with rfl
      exact ⟨hop, OwnN.grown (OwnN.alloc hp _) hg (hown.ne hp), hB, hn⟩

theorem readF_nil (k : Nat) (acc : List Stp) : readF k acc [] = (acc, 0) := by cases k <;> rfl
theorem readF_cons {k : Nat} {acc : List Stp} {b : List Int} (hk : b.length ≤ k) (h0 : b ≠ []) : ∃ j, b.length ≤ j + 1 ∧ k = j + 1 ∧
    readF k acc b = if acc.length = 200 then ([], 3) else if (stepF b).2.2 = 0 then readF j (acc ++ [(stepF b).1]) (b.drop (stepF b).2.1) else ([], (stepF b).2.2) := by
  cases b with
  | nil => exact absurd rfl h0
  | cons x b =>
    cases k with
    | zero => simp at hk
    | succ j => exact ⟨j, hk, rfl, rfl⟩
theorem pushF_st {b : List Int} {fr n : Nat} (hB : IsB b) : (0 ≤ (pushF b fr n).1.1 ∧ (pushF b fr n).1.1 ≤ 255) ∧ IsB (pushF b fr n).1.2 ∧ (pushF b fr n).1.2.length ≤ b.length := by
  unfold pushF
  split
  · exact ⟨⟨by decide, by decide⟩, IsB.nil, by simp⟩
  · refine ⟨⟨(by decide : (0 : Int) ≤ 1), (by decide : (1 : Int) ≤ 255)⟩, (hB.drop _).take _, ?_⟩
    simp only [List.length_take, List.length_drop]
    omega
theorem stepF_st {b : List Int} (hB : IsB b) : (0 ≤ (stepF b).1.1 ∧ (stepF b).1.1 ≤ 255) ∧ IsB (stepF b).1.2 ∧ (stepF b).1.2.length ≤ b.length := by
  have hv := hB.getD 0
  have z : (0 ≤ (0 : Int) ∧ (0 : Int) ≤ 255) ∧ IsB ([] : List Int) ∧ ([] : List Int).length ≤ b.length := ⟨⟨by decide, by decide⟩, IsB.nil, by simp⟩
  unfold stepF
  split
  · exact pushF_st hB
  · split
    · split
      · exact z
      · split
        · exact z
        · exact pushF_st hB
    · split
      · exact ⟨⟨by show 0 ≤ b.getD 0 0 - 127; omega, by show b.getD 0 0 - 127 ≤ 255; omega⟩, IsB.nil, by simp⟩
      · exact z
/-- what is left behind the first step -/
theorem Arg.drop {w : World} {A : Option Addr} {n c : Nat} {b : List Int} (h : Arg w A n c b) {lo : Nat} (hlo : lo ≤ n) : Arg w (if c = lo then A else A.map (·.add lo)) (n - lo) (c - lo) (b.drop lo) := by
  have hl := h.rd.len
  have hc := h.rd.cut hlo (Nat.le_refl n) h.cap
  rw [List.take_of_length_le (by rw [List.length_drop, hl]; exact Nat.le_refl _)] at hc
  exact ⟨hc, h.isB.drop _, by have := h.cap; omega, by have := h.top; omega, by have := h.len; omega⟩

set_option maxRecDepth 10000 in
set_option maxHeartbeats 1000000 in
theorem rread_any (A : Option Addr) (n c : Nat) (b : List Int) (w : World) (hb : Arg w A n c b) :
    Calls Try.prog 33 #[.slice A n c] w fun e w' => ∃ B c' hs, e = .returned (.tuple #[.slice B hs.length c', .int .i64 (readAll b).2]) ∧ sts hs = (readAll b).1 ∧ OwnS w' w.heap.size B hs.length c' hs ∧ Below w.heap.size w w' := by
  have hl := hb.rd.len
  have hn := hb.len
  have LB := Lib.hid (And.intro hl hb)
  clear hl
  go_enter Try.func33, Try.ntmps33
  go_wp2_with (fail)
  go_loopw [0, 4] (fun s l wr => ∃ (m : Nat) (k : Nat) (A1 : Option Addr) (n1 c1 : Nat) (b1 : List Int) (B : Option Addr) (c' : Nat) (hs : List Hd), s = .slice A1 n1 c1 ∧ l = .slice B m c' ∧ m ≤ 200 ∧ Arg w A1 n1 c1 b1 ∧ n1 ≤ n ∧ OwnS wr w.heap.size B m c' hs ∧ n1 ≤ k ∧ readF k (sts hs) b1 = readAll b ∧ Below w.heap.size w wr)
    (fun s _ _ => match s with | .slice _ q _ => q | _ => 0)
  case atStart => exact ⟨0, b.length, A, n, c, b, none, 0, [], rfl, rfl, by omega, hb, by omega, OwnS.nil _ _, by rw [LB.out.1]; exact Nat.le_refl _, rfl, Below.refl _ _⟩
  case round =>
    obtain ⟨m, k, A1, n1, c1, b1, B, c', hs, rfl, rfl, hm, hb1, hn1, ho, hk, hR, hbel⟩ := hrel
    have hl1 := hb1.rd.len
    have hc1 := hb1.cap
    have hlh := ho.len
    have hz := hbel.size
    by_cases h0 : 0 < n1
    · have hne : b1 ≠ [] := by intro e; rw [e] at hl1; simp at hl1; omega
      obtain ⟨j, hj1, hj2, hj⟩ := readF_cons (acc := sts hs) (by rw [hl1]; exact hk) hne
      rw [hj, sts_len, hlh] at hR
      by_cases h200 : m = 200
      · rw [if_pos h200] at hR
        have R := Lib.hid hR
        have d1 : ((m : Int) == 200) = true := by rw [beq_iff_eq]; omega
        clear hR hj hlh hl1 hb1
        go_wp2_with (fail)
        go_ret2
        rw [← R.out]
        exact ⟨none, 0, [], rfl, rfl, OwnS.nil _ _, hbel⟩
      · rw [if_neg h200] at hR
        have d1 : (m == 200) = false := by rw [beq_eq_false_iff_ne]; exact h200
        have d2 : ((m : Int) == 200) = false := by rw [beq_eq_false_iff_ne]; omega
        have C := Lib.hid (one_any A1 n1 c1 b1 wr (hb1.below hbel) h0)
        by_cases herr : (stepF b1).2.2 = 0
        · rw [if_pos herr] at hR
          have hpos := stepF_pos herr
          have hst := stepF_st hb1.isB
          rw [hl1] at hst hpos
          have hnx : (stepF b1).2.1 ≤ n1 := hpos.2.resolve_right hne
          have hdrop := hb1.drop (lo := (stepF b1).2.1) hnx
          obtain ⟨ad, rfl, _, _⟩ := hb1.rd.at_ h0
          rw [herr] at C
          have hn1' := hb1.len
          have hjj : n1 - (stepF b1).2.1 ≤ j := by rw [hl1] at hj1; omega
          have hnx0 := hpos.1
          obtain ⟨op, hop⟩ : ∃ o, (stepF b1).1.1 = o := ⟨_, rfl⟩
          obtain ⟨p, hp⟩ : ∃ o, (stepF b1).1.2 = o := ⟨_, rfl⟩
          obtain ⟨nx, hnxx⟩ : ∃ o, (stepF b1).2.1 = o := ⟨_, rfl⟩
          have hs1 : (stepF b1).1 = (op, p) := Prod.ext hop hp
          rw [hop, hp, hnxx] at C
          rw [hs1, hnxx] at hR
          rw [hop, hp] at hst
          rw [hnxx] at hnx hdrop hjj hnx0
          obtain ⟨q, hq⟩ : ∃ q, p.length = q := ⟨_, rfl⟩
          rw [hq] at C hst
          obtain ⟨hop1, hpB, hq1⟩ := hst
          have R := Lib.hid (And.intro hR (And.intro hpB hdrop))
          have HB1 := Lib.hid hb1
          clear hR hj hlh hl1 hb1 herr hdrop hpos hne hop hp hnxx hs1 hq hpB
          go_wp2_with (fail)
          refine C.out.mono ?_
          rintro e w2 ⟨A', c2, rfl, ho2, hb2⟩
          have hbel2 := bThen hbel hb2
          have hz2 := hbel2.size
          have ho' := ho.below hb2
          have ho2' := OwnN.mono ho2 hz
          clear C
          go_wp2_with (at_builtin; refine Stop.mk ?_)
          refine Stop.out ?_
          refine wpList_appS (w2.alloc _) rfl (.tmp 23) (.tmp 25) rfl w.heap.size B m c' hs ⟨op, A', q, c2, p⟩ rfl (ho'.alloc _) (w2.heap.size + 1) rfl (by simp) hop1 (OwnN.alloc ho2' _) R.out.2.1 (show q ≤ _ by omega) (by omega) (by simp; omega) ?_
          intro B2 c3 w3 ho3 hg
          have hbel3 : Below w.heap.size w w3 := (belA (belA hbel2 _ (Nat.le_refl _)) _ (Nat.le_refl _)).grown hg (by simp; omega) (fun g hg => (Own.lt ho.row g hg).1)
          have H3 := Lib.hid (And.intro ho3 hbel3)
          have hz3 := hbel3.size
          clear ho3 hbel3 hg ho ho' ho2 ho2' hb2 hbel2 hbel
          by_cases hcl : c1 = nx
          · go_wp2_with (fail)
            go_roundw
            case rel =>
              refine ⟨m + 1, j, _, n1 - nx, c1 - nx, b1.drop nx, B2, c3, hs ++ [⟨op, A', q, c2, p⟩], ?_, ?_, by omega, R.out.2.2, by omega, H3.out.1, hjj, ?_, H3.out.2⟩
              · simp [hcl]
              · rfl
              · rw [sts_append]; exact R.out.1
            case measure => simp; omega
          · go_wp2_with (fail)
            go_roundw
            case rel =>
              refine ⟨m + 1, j, _, n1 - nx, c1 - nx, b1.drop nx, B2, c3, hs ++ [⟨op, A', q, c2, p⟩], ?_, ?_, by omega, R.out.2.2, by omega, H3.out.1, hjj, ?_, H3.out.2⟩
              · simp [hcl]
              · rfl
              · rw [sts_append]; exact R.out.1
            case measure => simp; omega
        · rw [if_neg herr] at hR
          have R := Lib.hid hR
          have d3 : ((stepF b1).2.2 != 0) = true := by rw [bne_iff_ne]; exact herr
          clear hR hj hlh hl1 hb1 herr
          generalize (stepF b1).2.2 = er at *
          generalize (stepF b1).2.1 = nx at *
          generalize (stepF b1).1 = st at *
          go_wp2_with (fail)
          refine C.out.mono ?_
          rintro e w2 ⟨A', c2, rfl, ho2, hb2⟩
          have hbel2 := bThen hbel hb2
          have hz2 := hbel2.size
          clear C ho2 hb2
          go_wp2_with (fail)
          go_ret2
          rw [← R.out]
          exact ⟨none, 0, [], rfl, rfl, OwnS.nil _ _, belA hbel2 _ (Nat.le_refl _)⟩
    · obtain rfl : n1 = 0 := by omega
      have hb0 : b1 = [] := List.eq_nil_of_length_eq_zero hl1
      rw [hb0, readF_nil] at hR
      have R := Lib.hid (And.intro hR hlh)
      clear hR hlh hl1 hb1
      go_wp2_with (fail)
      go_ret2
      have hlh := R.out.2
      subst hlh
      rw [← R.out.1]
      exact ⟨B, c', hs, rfl, rfl, ho, hbel⟩
end Go.Proofs.Ytpbnodomopdjhaa
