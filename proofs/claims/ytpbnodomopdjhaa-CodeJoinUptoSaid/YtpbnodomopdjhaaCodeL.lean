/- The walk of the statement CodeJoin. -/
import Derived.Test.YtpbnodomopdjhaaCodeK
namespace Go.Proofs.Ytpbnodomopdjhaa
open Go.RowKit Go.Proofs En Cd
set_option linter.unusedVariables false
set_option linter.unusedSimpArgs false

/-- steps that are one's own are appended to steps of one's own -/
theorem wpList_appSs (w : World) {ops : Array Oper} {rest : List Oper} {o : Oper} {a : Act} {Q : Exit → Act → World → Prop} (hgd : o.guard = none) (s x : Operand)
    (ho : o.op = .call { callee := .builtin .append, args := #[s, x], argTypes := #[44, 44] })
    (base : Nat) (B : Option Addr) (m c : Nat) (hs : List Hd) (hsv : a.eval s = .slice B m c) (hown : Own w base 55 2 (fun _ => True) B m c (hcells hs))
    (B2 : Option Addr) (m2 c2 : Nat) (gs : List Hd) (hx : a.eval x = .slice B2 m2 c2) (hg : Rd w 2 B2 m2 (hcells gs)) (hm : m + m2 ≤ 4000000000) (hbase : base ≤ w.heap.size)
    (h : ∀ B' c' w', Own w' base 55 2 (fun _ => True) B' (m + m2) c' (hcells (hs ++ gs)) → w.grownBy w' (blk B) → wpList Try.prog ops Q rest (a.put o.dst (.slice B' (m + m2) c')) w') :
    wpList Try.prog ops Q (o :: rest) a w := by
  obtain ⟨i, hi, hz, hsz, hby⟩ := info_of inf_step
  refine wpList_app _ hgd s x _ ho base 55 i _ 2 32 (fun _ => True) Try.underlying44 hi hz hsz hby rfl (by omega) (fun _ _ => trivial) B m c (hcells hs) hsv hown _ m2 c2 (hcells gs) hx hg (fun u hu => ?_) (fun _ _ => trivial)
    (by unfold maxLen; omega) (by omega) hbase ?_
  · unfold hcells at hu
    obtain ⟨y, _, hy⟩ := List.mem_flatMap.1 hu
    exact hd_one y u hy
  · intro B' c' w' h2 hg2 _
    refine h B' c' w' ?_ hg2
    rw [hcells_append]
    exact h2

theorem ArgS.grown {w w' : World} {B : Option Addr} {m c : Nat} {hs : List Hd} (h : ArgS w B m c hs) (hb : Below w.heap.size w w') : ArgS w' B m c hs := h.below hb

set_option maxHeartbeats 2000000 in
theorem codeJoin_walk (A : Option Addr) (len cap : Nat) (a : List Int) (B : Option Addr) (lenb capb : Nat) (b : List Int) (w : World) (ha : Arg w A len cap a) (hb : Arg w B lenb capb b) (h1 : len ≤ 1048576) (h2 : lenb ≤ 1048576) :
    Calls Try.prog 10 #[.slice A len cap, .slice B lenb capb] w fun e w' => e = .returned (.bool true) ∧ Below w.heap.size w w' := by
  have hla := ha.rd.len
  have hlb := hb.rd.len
  obtain ⟨x, q, hxq⟩ : ∃ l q, readAll a = (l, q) := ⟨_, _, rfl⟩
  obtain ⟨y, r, hyr⟩ : ∃ l q, readAll b = (l, q) := ⟨_, _, rfl⟩
  obtain ⟨z, s, hzs⟩ : ∃ l q, readAll (a ++ b) = (l, q) := ⟨_, _, rfl⟩
  have hx200 := readAll_len hxq
  have hy200 := readAll_len hyr
  have hz200 := readAll_len hzs
  have hj := fun (e1 : q = 0) (e2 : r = 0) => read_join ha.isB hb.isB (by rw [e1] at hxq; exact hxq) (by rw [e2] at hyr; exact hyr)
  have L := Lib.hid (And.intro hxq (And.intro hyr (And.intro hzs (And.intro hla (And.intro hlb hj)))))
  clear hxq hyr hzs hla hlb hj
  go_enter Try.func10, Try.ntmps10
  go_wp2_with (fail)
  refine (read_is ha L.out.1).mono ?_
  rintro e w1 ⟨A1, c1, hs, rfl, hss, ho1, hbl⟩
  have hl1 : hs.length = x.length := by rw [← hss, sts_len]
  rw [hl1] at ho1 ⊢
  have hg1 := ho1.arg (by omega)
  have hz := hbl.size
  have HS := Lib.hid hss
  clear ho1 hss hl1
  go_wp2_with (fail)
  refine (read_is (hb.below hbl) L.out.2.1).mono ?_
  rintro e w2 ⟨A2, c2, gs, rfl, hss, ho2, hb2⟩
  have hl2 : gs.length = y.length := by rw [← hss, sts_len]
  rw [hl2] at ho2 ⊢
  have hg2 := ho2.arg (by omega)
  have hg1 := hg1.below hb2
  have hbl := bThen hbl hb2
  have hz := hbl.size
  have HT := Lib.hid hss
  clear ho2 hss hl2 hb2
  go_wp2_with (at_builtin; refine Stop.mk ?_)
  refine Stop.out ?_
  refine wpList_appN _ rfl (.tmp 23) (.tmp 24) _ rfl w2.heap.size 5 .u8 1 Try.underlying23 inf_b none 0 0 [] rfl (OwnN.nil _ _ _ _) A len cap a rfl (ha.below hbl).rd (by unfold maxLen; omega) (by omega) (Nat.le_refl _) ?_
  intro A3 c3 w3 ho3 hg _
  rw [Nat.zero_add, List.nil_append] at ho3
  rw [Nat.zero_add]
  have hb3 : Below w2.heap.size w2 w3 := (Below.refl _ _).grown hg (Nat.le_refl _) (fun _ h => by cases h)
  have hz3 := hb3.size
  have H3 := Lib.hid (And.intro ho3 hb3)
  have hbl3 := bThen hbl hb3
  clear hb3 hg ho3
  go_wp2_with (at_builtin; refine Stop.mk ?_)
  refine Stop.out ?_
  refine wpList_appN _ rfl (.tmp 26) (.tmp 27) _ rfl w2.heap.size 5 .u8 1 Try.underlying23 inf_b A3 len c3 a rfl H3.out.1 B lenb capb b rfl (hb.below hbl3).rd (by unfold maxLen; omega) (by omega) hz3 ?_
  intro A4 c4 w4 ho4 hg _
  have hb4 : Below w2.heap.size w2 w4 := H3.out.2.grown hg hz3 (fun g hg => (OwnN.lt H3.out.1 g hg).1)
  have hbl := bThen hbl hb4
  have hg1 := hg1.below hb4
  have hg2 := hg2.below hb4
  have hz := hbl.size
  have ha4 : Arg w4 A4 (len + lenb) c4 (a ++ b) := ⟨ho4.rd, ha.isB.append hb.isB, (Own.len_cap ho4).1, (Own.len_cap ho4).2, by omega⟩
  clear hbl3 H3 hz3 hg ho4 hb4
  go_wp2_with (fail)
  refine (read_is ha4 L.out.2.2.1).mono ?_
  rintro e w5 ⟨A5, c5, zs, rfl, hss, ho5, hb5⟩
  have hl5 : zs.length = z.length := by rw [← hss, sts_len]
  rw [hl5] at ho5 ⊢
  have hg5 := ho5.arg (by omega)
  have hg1 := hg1.below hb5
  have hg2 := hg2.below hb5
  have hbl := bThen hbl hb5
  have hz := hbl.size
  have HU := Lib.hid hss
  clear ho5 hss hl5 hb5 ha4
  by_cases hq : q = 0
  · have d1 : (q != 0) = false := by rw [bne_eq_false_iff_eq]; exact hq
    by_cases hr : r = 0
    · have d2 : (r != 0) = false := by rw [bne_eq_false_iff_eq]; exact hr
      obtain ⟨_, _, hcat⟩ := L.out.2.2.2.2.2 hq hr
      rw [L.out.2.2.1] at hcat
      clear hq hr
      by_cases hlim : 200 < x.length + y.length
      · rw [if_pos hlim] at hcat
        have d3 : decide ((x.length : Int) + y.length > 200) = true := decide_eq_true (by omega)
        have d4 : (s == 3) = true := by rw [beq_iff_eq]; exact congrArg Prod.snd hcat
        clear hcat
        go_wp2_with (fail)
        refine (lives_any _).mono ?_
        rintro e w6 ⟨rfl, hb6⟩
        have hbl := bThen hbl hb6
        clear hb6
        go_wp2_with (fail)
        go_ret
        exact ⟨rfl, hbl⟩
      · rw [if_neg hlim] at hcat
        have d3 : decide ((x.length : Int) + y.length > 200) = false := decide_eq_false (by omega)
        have d4 : (s == 0) = true := by rw [beq_iff_eq]; exact congrArg Prod.snd hcat
        have hzl : z = x ++ y := congrArg Prod.fst hcat
        have Z := Lib.hid hzl
        clear hcat hzl
        go_wp2_with (at_builtin; refine Stop.mk ?_)
        refine Stop.out ?_
        refine wpList_appSs _ rfl (.tmp 52) (.tmp 53) rfl w5.heap.size none 0 0 [] rfl (Own.nil _ _ _ _ _) A1 x.length c1 hs rfl hg1.rd (by omega) (Nat.le_refl _) ?_
        intro A6 c6 w6 ho6 hg
        rw [Nat.zero_add, List.nil_append] at ho6
        rw [Nat.zero_add]
        have hb6 : Below w5.heap.size w5 w6 := (Below.refl _ _).grown hg (Nat.le_refl _) (fun _ h => by cases h)
        have hz6 := hb6.size
        have H6 := Lib.hid (And.intro ho6 hb6)
        have hg2' := hg2.below hb6
        clear hg ho6 hb6
        go_wp2_with (at_builtin; refine Stop.mk ?_)
        refine Stop.out ?_
        refine wpList_appSs _ rfl (.tmp 55) (.tmp 56) rfl w5.heap.size A6 x.length c6 hs rfl H6.out.1 A2 y.length c2 gs rfl hg2'.rd (by omega) hz6 ?_
        intro A7 c7 w7 ho7 hg
        have hb7 : Below w5.heap.size w5 w7 := H6.out.2.grown hg hz6 (fun g hg => (Own.lt H6.out.1 g hg).1)
        have hg7 : ArgS w7 A7 (x.length + y.length) c7 (hs ++ gs) := ⟨ho7.rd, fun u hu => by
          rcases List.mem_append.1 hu with hu | hu
          · exact (hg1.below hb7).ok u hu
          · exact (hg2.below hb7).ok u hu, (Own.len_cap ho7).1, (Own.len_cap ho7).2, by omega⟩
        have hg5' := hg5.below hb7
        have hbl := bThen hbl hb7
        have hz := hbl.size
        clear hg ho7 hb7 H6 hg2' hz6 hg1 hg2 hg5
        go_wp2_with (fail)
        refine (rcsame_is (r := true) hg5' hg7 (by rw [HU.out, sts_append, HS.out, HT.out, Z.out]; exact decide_eq_true rfl)).mono ?_
        rintro e w8 ⟨rfl, hb8⟩
        have hbl := bThen hbl hb8
        have hz := hbl.size
        clear hb8 hg5' hg7
        go_wp2_with (fail)
        refine (lives_any _).mono ?_
        rintro e w6 ⟨rfl, hb6⟩
        have hbl := bThen hbl hb6
        clear hb6
        go_wp2_with (fail)
        go_ret
        exact ⟨rfl, hbl⟩
    · have d2 : (r != 0) = true := by rw [bne_iff_ne]; exact hr
      clear hq hr
      go_wp2_with (fail)
      refine (lives_any _).mono ?_
      rintro e w6 ⟨rfl, hb6⟩
      have hbl := bThen hbl hb6
      clear hb6
      go_wp2_with (fail)
      go_ret
      exact ⟨rfl, hbl⟩
  · have d1 : (q != 0) = true := by rw [bne_iff_ne]; exact hq
    clear hq
    go_wp2_with (fail)
    refine (lives_any _).mono ?_
    rintro e w6 ⟨rfl, hb6⟩
    have hbl := bThen hbl hb6
    clear hb6
    go_wp2_with (fail)
    go_ret
    exact ⟨rfl, hbl⟩
end Go.Proofs.Ytpbnodomopdjhaa
