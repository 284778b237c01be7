/- The walk of the statement EndsBack, of arguments that are not too great. -/
import Derived.Test.YtpbnodomopdjhaaEndsK
namespace Go.Proofs.Ytpbnodomopdjhaa
open Go.RowKit Go.Proofs En
set_option linter.unusedVariables false
set_option linter.unusedSimpArgs false

theorem countF_le (n : Int) : (countF n).length ≤ 9 := by have := countF_len n; omega
theorem row_is {A : Option Addr} {n c : Nat} {b p : List Int} {w : World} (hb : Arg w A n c b) (h9 : n + 9 ≤ 140737488355328) (h : rowF b = p) :
    Calls Try.prog 27 #[.slice A n c] w fun e w' => ∃ A' c', e = .returned (.slice A' p.length c') ∧ OwnB w' w.heap.size A' p.length c' p ∧ Below w.heap.size w w' := by
  have C := row_any A n c b w hb h9
  rw [h] at C
  exact C

set_option maxHeartbeats 4000000 in
theorem endsBack_walk (n size : Int) (R : Option Addr) (lr cr : Nat) (row : List Int) (X : Option Addr) (lx cx : Nat) (ahead : List Int) (Y : Option Addr) (ly cy : Nat) (behind : List Int) (w : World)
    (hn : 0 ≤ n ∧ n < 18446744073709551616) (hs : 0 ≤ size ∧ size ≤ 255) (hR : Arg w R lr cr row) (hX : Arg w X lx cx ahead) (hY : Arg w Y ly cy behind) (h1 : cr ≤ 1048576) (h2 : cx ≤ 1048576) (h3 : cy ≤ 1048576) :
    Calls Try.prog 6 #[.int .u64 n, .int .u8 size, .slice R lr cr, .slice X lx cx, .slice Y ly cy] w fun e w' => e = .returned (.bool true) ∧ Below w.heap.size w w' := by
  have hlr := hR.rd.len
  have hlx := hX.rd.len
  have hly := hY.rd.len
  have hcr := hR.cap
  have hcx := hX.cap
  have hcy := hY.cap
  obtain ⟨ct, hct⟩ : ∃ ct, countF n = ct := ⟨_, rfl⟩
  obtain ⟨rr, hrr⟩ : ∃ rr, rowF row = rr := ⟨_, rfl⟩
  obtain ⟨lc, hlc⟩ : ∃ l, ct.length = l := ⟨_, rfl⟩
  obtain ⟨lq, hlq⟩ : ∃ l, rr.length = l := ⟨_, rfl⟩
  have h9 := countF_le n
  have h10 := countF_le (row.length : Int)
  have hlq2 : lq ≤ lr + 9 := by rw [← hlq, ← hrr]; unfold rowF; rw [List.length_append, hlr] at *; omega
  rw [hct, hlc] at h9
  have hB : IsB (ahead ++ ct ++ rr ++ behind) := by
    refine ((hX.isB.append ?_).append ?_).append hY.isB
    · rw [← hct]; exact countF_isB hn.1
    · rw [← hrr]; exact (countF_isB (by omega)).append hR.isB
  have hgc : getCountF (ahead ++ ct ++ rr ++ behind) lx = (n, (lx : Int) + lc, 0) := by
    have h := getCountF_mid ahead (rr ++ behind) n lx (by rw [hlx]) hn
    rw [hct, hlc] at h
    rw [← h]; simp
  have hgr : getRowF (ahead ++ ct ++ rr ++ behind) ((lx : Int) + lc) lr = (row, (lx : Int) + lc + lq, 0) := by
    have h := getRowF_mid (ahead ++ ct) row behind (lx + lc) lr (by rw [List.length_append, hlx, hlc]; omega) (by rw [hlr]; exact Int.le_refl _) (by omega)
    rw [hrr, hlq] at h
    exact h
  have P := Lib.hid (And.intro hct (And.intro hrr (And.intro hB (And.intro hgc hgr))))
  have L := Lib.hid (And.intro hlc hlq)
  clear hct hrr hB hgc hgr h10
  have hsz : size.tmod 4 = 0 ∨ size.tmod 4 = 1 ∨ size.tmod 4 = 2 ∨ size.tmod 4 = 3 := by
    rw [Int.tmod_eq_emod_of_nonneg hs.1]; omega
  go_enter Try.func6, Try.ntmps6
  rcases hsz with t | t | t | t
  · -- so many bytes: 1
    obtain ⟨p, q, hp⟩ : ∃ p q, putF n 1 = (p, q) := ⟨_, _, rfl⟩
    by_cases hq : q = 0
    · subst hq
      obtain ⟨hs1, hs2, hs3⟩ := putF_ok (n := n) (m := 1) (by rw [hp])
      have hpl : p = lowF n 1 := by rw [hp] at hs3; exact (Prod.mk.inj hs3).1
      have hlt : n < 256 ^ 1 := by rcases hs2 with h | h; omega; exact h
      have hlen : p.length = 1 := by rw [hpl, lowF_length]
      have hgm : getF (ahead ++ p ++ behind) lx 1 = (n, 0) := by
        rw [hpl]
        exact getF_mid ahead behind n lx 1 (by rw [hlx]) (by decide) ⟨hn.1, hlt⟩
      have hpB : IsB (ahead ++ p ++ behind) := (hX.isB.append (by rw [hpl]; exact lowF_isB _ _)).append hY.isB
      have F := Lib.hid (And.intro hp (And.intro hgm hpB))
      clear hp hgm hpB hpl hs1 hs2 hs3 hlt
      go_wp2_with (fail)
      refine (put_is _ hn F.out.1).mono ?_
      rintro e w1 ⟨A1, c1, rfl, o1, bl⟩
      rw [hlen] at o1
      have hz := bl.size
      go_wp2_with (at_builtin; refine Stop.mk ?_)
      refine Stop.out ?_
      refine wpList_appN _ rfl (.tmp 35) (.tmp 36) _ rfl w.heap.size 5 .u8 1 Try.underlying23 inf_b none 0 0 [] rfl (OwnN.nil _ _ _ _) X lx cx ahead rfl (hX.below bl).rd (by unfold maxLen; omega) (by omega) hz ?_
      intro kA kc kw ko hg _
      have bl := bl.grown hg hz (fun _ h => by cases h)
      have hz := bl.size
      rw [Nat.zero_add, List.nil_append] at ko
      have r1 := (o1.grown hg (fun _ _ h => by cases h)).rd
      clear hg o1
      go_wp2_with (at_builtin; refine Stop.mk ?_)
      refine Stop.out ?_
      refine wpList_appN _ rfl (.tmp 37) (.tmp 38) _ rfl w.heap.size 5 .u8 1 Try.underlying23 inf_b kA lx kc ahead rfl ko A1 1 c1 p rfl r1 (by unfold maxLen; omega) (by omega) hz ?_
      intro gA gc gw go hg _
      have bl := bl.grown hg hz (fun g hg => (OwnN.lt ko g hg).1)
      have hz := bl.size
      clear hg ko r1
      go_wp2_with (at_builtin; refine Stop.mk ?_)
      refine Stop.out ?_
      refine wpList_appN _ rfl (.tmp 39) (.tmp 40) _ rfl w.heap.size 5 .u8 1 Try.underlying23 inf_b gA (lx + 1) gc (ahead ++ p) rfl go Y ly cy behind rfl (hY.below bl).rd (by unfold maxLen; omega) (by omega) hz ?_
      intro mA mc mw mo hg _
      have bl := bl.grown hg hz (fun g hg => (OwnN.lt go g hg).1)
      have hz := bl.size
      have mcap := Own.len_cap mo
      have ar : Arg mw mA (lx + 1 + ly) mc (ahead ++ p ++ behind) := ⟨mo.rd, F.out.2.2, mcap.1, mcap.2, by omega⟩
      clear hg go mo
      go_wp2_with (fail)
      refine (get_is ar (by omega) (by omega) F.out.2.1).mono ?_
      rintro e w5 ⟨rfl, b5⟩
      have bl := bThen bl b5
      have hz := bl.size
      clear b5 ar
      go_wp2_with (at_builtin; refine Stop.mk ?_)
      refine Stop.out ?_
      refine wpList_appN _ rfl (.tmp 65) (.tmp 66) _ rfl w.heap.size 5 .u8 1 Try.underlying23 inf_b none 0 0 [] rfl (OwnN.nil _ _ _ _) X lx cx ahead rfl (hX.below bl).rd (by unfold maxLen; omega) (by omega) hz ?_
      intro uA uc uw uo hg _
      have bl := bl.grown hg hz (fun _ h => by cases h)
      have hz := bl.size
      rw [Nat.zero_add, List.nil_append] at uo
      clear hg
      go_wp2_with (fail)
      refine (count_is (p := ct) _ hn P.out.1).mono ?_
      rintro e vw ⟨vA, vc, rfl, vo, vb⟩
      rw [L.out.1] at vo
      have bl := bThen bl vb
      have uo := uo.below vb
      have hz := bl.size
      have vr := vo.rd
      clear vb vo
      go_wp2_with (at_builtin; refine Stop.mk ?_)
      refine Stop.out ?_
      refine wpList_appN _ rfl (.tmp 67) (.tmp 69) _ rfl w.heap.size 5 .u8 1 Try.underlying23 inf_b uA lx uc ahead rfl uo vA lc vc ct rfl vr (by unfold maxLen; omega) (by omega) hz ?_
      intro xA xc xw xo hg _
      have bl := bl.grown hg hz (fun g hg => (OwnN.lt uo g hg).1)
      have hz := bl.size
      clear hg uo vr
      go_wp2_with (fail)
      refine (row_is (p := rr) (hR.below bl) (by omega) P.out.2.1).mono ?_
      rintro e yw ⟨yA, yc, rfl, yo, yb⟩
      rw [L.out.2] at yo
      have bl := bThen bl yb
      have xo := xo.below yb
      have hz := bl.size
      have yr := yo.rd
      clear yb yo
      go_wp2_with (at_builtin; refine Stop.mk ?_)
      refine Stop.out ?_
      refine wpList_appN _ rfl (.tmp 70) (.tmp 72) _ rfl w.heap.size 5 .u8 1 Try.underlying23 inf_b xA (lx + lc) xc (ahead ++ ct) rfl xo yA lq yc rr rfl yr (by unfold maxLen; omega) (by omega) hz ?_
      intro zA zc zw zo hg _
      have bl := bl.grown hg hz (fun g hg => (OwnN.lt xo g hg).1)
      have hz := bl.size
      clear hg xo yr
      go_wp2_with (at_builtin; refine Stop.mk ?_)
      refine Stop.out ?_
      refine wpList_appN _ rfl (.tmp 73) (.tmp 74) _ rfl w.heap.size 5 .u8 1 Try.underlying23 inf_b zA (lx + lc + lq) zc (ahead ++ ct ++ rr) rfl zo Y ly cy behind rfl (hY.below bl).rd (by unfold maxLen; omega) (by omega) hz ?_
      intro bA bc bw bo hg _
      have bl := bl.grown hg hz (fun g hg => (OwnN.lt zo g hg).1)
      have hz := bl.size
      have bcap := Own.len_cap bo
      have ar : Arg bw bA (lx + lc + lq + ly) bc (ahead ++ ct ++ rr ++ behind) := ⟨bo.rd, P.out.2.2.1, bcap.1, bcap.2, by omega⟩
      clear hg zo bo
      go_wp2_with (fail)
      refine (getCount_is ar (by omega) P.out.2.2.2.1).mono ?_
      rintro e w8 ⟨rfl, b8⟩
      have ar := ar.below b8
      have bl := bThen bl b8
      have hz := bl.size
      clear b8
      go_wp2_with (fail)
      refine (getRow_is ar (by omega) (by omega) P.out.2.2.2.2).mono ?_
      rintro e w9 ⟨A9, c9, rfl, o9, b9⟩
      have r9 := o9.rd
      rw [hlr] at r9
      have bl := bThen bl b9
      have hz := bl.size
      clear b9 o9
      go_wp2_with (fail)
      refine (same_is (r := true) r9 (hR.below bl).rd (by omega) (decide_eq_true rfl)).mono ?_
      rintro e w10 ⟨rfl, b10⟩
      have bl := bThen bl b10
      have hz := bl.size
      clear b10 r9
      have eq1 : ((lx : Int) + lc + lq == (lx : Int) + lc + lq + ly - ly) = true := by rw [beq_iff_eq]; omega
      go_wp2_with (fail)
      refine (works01_any _).mono ?_
      rintro e w11 ⟨rfl, b11⟩
      have bl := bThen bl b11
      clear b11
      go_wp2_with (fail)
      go_ret
      exact ⟨rfl, bl⟩
    · have d1 : (q == 0) = false := by rw [beq_eq_false_iff_ne]; exact hq
      have F := Lib.hid hp
      clear hp hq
      go_wp2_with (fail)
      refine (put_is _ hn F.out).mono ?_
      rintro e w1 ⟨A1, c1, rfl, o1, bl⟩
      have hz := bl.size
      clear o1
      go_wp2_with (at_builtin; refine Stop.mk ?_)
      refine Stop.out ?_
      refine wpList_appN _ rfl (.tmp 65) (.tmp 66) _ rfl w.heap.size 5 .u8 1 Try.underlying23 inf_b none 0 0 [] rfl (OwnN.nil _ _ _ _) X lx cx ahead rfl (hX.below bl).rd (by unfold maxLen; omega) (by omega) hz ?_
      intro uA uc uw uo hg _
      have bl := bl.grown hg hz (fun _ h => by cases h)
      have hz := bl.size
      rw [Nat.zero_add, List.nil_append] at uo
      clear hg
      go_wp2_with (fail)
      refine (count_is (p := ct) _ hn P.out.1).mono ?_
      rintro e vw ⟨vA, vc, rfl, vo, vb⟩
      rw [L.out.1] at vo
      have bl := bThen bl vb
      have uo := uo.below vb
      have hz := bl.size
      have vr := vo.rd
      clear vb vo
      go_wp2_with (at_builtin; refine Stop.mk ?_)
      refine Stop.out ?_
      refine wpList_appN _ rfl (.tmp 67) (.tmp 69) _ rfl w.heap.size 5 .u8 1 Try.underlying23 inf_b uA lx uc ahead rfl uo vA lc vc ct rfl vr (by unfold maxLen; omega) (by omega) hz ?_
      intro xA xc xw xo hg _
      have bl := bl.grown hg hz (fun g hg => (OwnN.lt uo g hg).1)
      have hz := bl.size
      clear hg uo vr
      go_wp2_with (fail)
      refine (row_is (p := rr) (hR.below bl) (by omega) P.out.2.1).mono ?_
      rintro e yw ⟨yA, yc, rfl, yo, yb⟩
      rw [L.out.2] at yo
      have bl := bThen bl yb
      have xo := xo.below yb
      have hz := bl.size
      have yr := yo.rd
      clear yb yo
      go_wp2_with (at_builtin; refine Stop.mk ?_)
      refine Stop.out ?_
      refine wpList_appN _ rfl (.tmp 70) (.tmp 72) _ rfl w.heap.size 5 .u8 1 Try.underlying23 inf_b xA (lx + lc) xc (ahead ++ ct) rfl xo yA lq yc rr rfl yr (by unfold maxLen; omega) (by omega) hz ?_
      intro zA zc zw zo hg _
      have bl := bl.grown hg hz (fun g hg => (OwnN.lt xo g hg).1)
      have hz := bl.size
      clear hg xo yr
      go_wp2_with (at_builtin; refine Stop.mk ?_)
      refine Stop.out ?_
      refine wpList_appN _ rfl (.tmp 73) (.tmp 74) _ rfl w.heap.size 5 .u8 1 Try.underlying23 inf_b zA (lx + lc + lq) zc (ahead ++ ct ++ rr) rfl zo Y ly cy behind rfl (hY.below bl).rd (by unfold maxLen; omega) (by omega) hz ?_
      intro bA bc bw bo hg _
      have bl := bl.grown hg hz (fun g hg => (OwnN.lt zo g hg).1)
      have hz := bl.size
      have bcap := Own.len_cap bo
      have ar : Arg bw bA (lx + lc + lq + ly) bc (ahead ++ ct ++ rr ++ behind) := ⟨bo.rd, P.out.2.2.1, bcap.1, bcap.2, by omega⟩
      clear hg zo bo
      go_wp2_with (fail)
      refine (getCount_is ar (by omega) P.out.2.2.2.1).mono ?_
      rintro e w8 ⟨rfl, b8⟩
      have ar := ar.below b8
      have bl := bThen bl b8
      have hz := bl.size
      clear b8
      go_wp2_with (fail)
      refine (getRow_is ar (by omega) (by omega) P.out.2.2.2.2).mono ?_
      rintro e w9 ⟨A9, c9, rfl, o9, b9⟩
      have r9 := o9.rd
      rw [hlr] at r9
      have bl := bThen bl b9
      have hz := bl.size
      clear b9 o9
      go_wp2_with (fail)
      refine (same_is (r := true) r9 (hR.below bl).rd (by omega) (decide_eq_true rfl)).mono ?_
      rintro e w10 ⟨rfl, b10⟩
      have bl := bThen bl b10
      have hz := bl.size
      clear b10 r9
      have eq1 : ((lx : Int) + lc + lq == (lx : Int) + lc + lq + ly - ly) = true := by rw [beq_iff_eq]; omega
      go_wp2_with (fail)
      refine (works01_any _).mono ?_
      rintro e w11 ⟨rfl, b11⟩
      have bl := bThen bl b11
      clear b11
      go_wp2_with (fail)
      go_ret
      exact ⟨rfl, bl⟩
  · -- so many bytes: 2
    obtain ⟨p, q, hp⟩ : ∃ p q, putF n 2 = (p, q) := ⟨_, _, rfl⟩
    by_cases hq : q = 0
    · subst hq
      obtain ⟨hs1, hs2, hs3⟩ := putF_ok (n := n) (m := 2) (by rw [hp])
      have hpl : p = lowF n 2 := by rw [hp] at hs3; exact (Prod.mk.inj hs3).1
      have hlt : n < 256 ^ 2 := by rcases hs2 with h | h; omega; exact h
      have hlen : p.length = 2 := by rw [hpl, lowF_length]
      have hgm : getF (ahead ++ p ++ behind) lx 2 = (n, 0) := by
        rw [hpl]
        exact getF_mid ahead behind n lx 2 (by rw [hlx]) (by decide) ⟨hn.1, hlt⟩
      have hpB : IsB (ahead ++ p ++ behind) := (hX.isB.append (by rw [hpl]; exact lowF_isB _ _)).append hY.isB
      have F := Lib.hid (And.intro hp (And.intro hgm hpB))
      clear hp hgm hpB hpl hs1 hs2 hs3 hlt
      go_wp2_with (fail)
      refine (put_is _ hn F.out.1).mono ?_
      rintro e w1 ⟨A1, c1, rfl, o1, bl⟩
      rw [hlen] at o1
      have hz := bl.size
      go_wp2_with (at_builtin; refine Stop.mk ?_)
      refine Stop.out ?_
      refine wpList_appN _ rfl (.tmp 35) (.tmp 36) _ rfl w.heap.size 5 .u8 1 Try.underlying23 inf_b none 0 0 [] rfl (OwnN.nil _ _ _ _) X lx cx ahead rfl (hX.below bl).rd (by unfold maxLen; omega) (by omega) hz ?_
      intro kA kc kw ko hg _
      have bl := bl.grown hg hz (fun _ h => by cases h)
      have hz := bl.size
      rw [Nat.zero_add, List.nil_append] at ko
      have r1 := (o1.grown hg (fun _ _ h => by cases h)).rd
      clear hg o1
      go_wp2_with (at_builtin; refine Stop.mk ?_)
      refine Stop.out ?_
      refine wpList_appN _ rfl (.tmp 37) (.tmp 38) _ rfl w.heap.size 5 .u8 1 Try.underlying23 inf_b kA lx kc ahead rfl ko A1 2 c1 p rfl r1 (by unfold maxLen; omega) (by omega) hz ?_
      intro gA gc gw go hg _
      have bl := bl.grown hg hz (fun g hg => (OwnN.lt ko g hg).1)
      have hz := bl.size
      clear hg ko r1
      go_wp2_with (at_builtin; refine Stop.mk ?_)
      refine Stop.out ?_
      refine wpList_appN _ rfl (.tmp 39) (.tmp 40) _ rfl w.heap.size 5 .u8 1 Try.underlying23 inf_b gA (lx + 2) gc (ahead ++ p) rfl go Y ly cy behind rfl (hY.below bl).rd (by unfold maxLen; omega) (by omega) hz ?_
      intro mA mc mw mo hg _
      have bl := bl.grown hg hz (fun g hg => (OwnN.lt go g hg).1)
      have hz := bl.size
      have mcap := Own.len_cap mo
      have ar : Arg mw mA (lx + 2 + ly) mc (ahead ++ p ++ behind) := ⟨mo.rd, F.out.2.2, mcap.1, mcap.2, by omega⟩
      clear hg go mo
      go_wp2_with (fail)
      refine (get_is ar (by omega) (by omega) F.out.2.1).mono ?_
      rintro e w5 ⟨rfl, b5⟩
      have bl := bThen bl b5
      have hz := bl.size
      clear b5 ar
      go_wp2_with (at_builtin; refine Stop.mk ?_)
      refine Stop.out ?_
      refine wpList_appN _ rfl (.tmp 65) (.tmp 66) _ rfl w.heap.size 5 .u8 1 Try.underlying23 inf_b none 0 0 [] rfl (OwnN.nil _ _ _ _) X lx cx ahead rfl (hX.below bl).rd (by unfold maxLen; omega) (by omega) hz ?_
      intro uA uc uw uo hg _
      have bl := bl.grown hg hz (fun _ h => by cases h)
      have hz := bl.size
      rw [Nat.zero_add, List.nil_append] at uo
      clear hg
      go_wp2_with (fail)
      refine (count_is (p := ct) _ hn P.out.1).mono ?_
      rintro e vw ⟨vA, vc, rfl, vo, vb⟩
      rw [L.out.1] at vo
      have bl := bThen bl vb
      have uo := uo.below vb
      have hz := bl.size
      have vr := vo.rd
      clear vb vo
      go_wp2_with (at_builtin; refine Stop.mk ?_)
      refine Stop.out ?_
      refine wpList_appN _ rfl (.tmp 67) (.tmp 69) _ rfl w.heap.size 5 .u8 1 Try.underlying23 inf_b uA lx uc ahead rfl uo vA lc vc ct rfl vr (by unfold maxLen; omega) (by omega) hz ?_
      intro xA xc xw xo hg _
      have bl := bl.grown hg hz (fun g hg => (OwnN.lt uo g hg).1)
      have hz := bl.size
      clear hg uo vr
      go_wp2_with (fail)
      refine (row_is (p := rr) (hR.below bl) (by omega) P.out.2.1).mono ?_
      rintro e yw ⟨yA, yc, rfl, yo, yb⟩
      rw [L.out.2] at yo
      have bl := bThen bl yb
      have xo := xo.below yb
      have hz := bl.size
      have yr := yo.rd
      clear yb yo
      go_wp2_with (at_builtin; refine Stop.mk ?_)
      refine Stop.out ?_
      refine wpList_appN _ rfl (.tmp 70) (.tmp 72) _ rfl w.heap.size 5 .u8 1 Try.underlying23 inf_b xA (lx + lc) xc (ahead ++ ct) rfl xo yA lq yc rr rfl yr (by unfold maxLen; omega) (by omega) hz ?_
      intro zA zc zw zo hg _
      have bl := bl.grown hg hz (fun g hg => (OwnN.lt xo g hg).1)
      have hz := bl.size
      clear hg xo yr
      go_wp2_with (at_builtin; refine Stop.mk ?_)
      refine Stop.out ?_
      refine wpList_appN _ rfl (.tmp 73) (.tmp 74) _ rfl w.heap.size 5 .u8 1 Try.underlying23 inf_b zA (lx + lc + lq) zc (ahead ++ ct ++ rr) rfl zo Y ly cy behind rfl (hY.below bl).rd (by unfold maxLen; omega) (by omega) hz ?_
      intro bA bc bw bo hg _
      have bl := bl.grown hg hz (fun g hg => (OwnN.lt zo g hg).1)
      have hz := bl.size
      have bcap := Own.len_cap bo
      have ar : Arg bw bA (lx + lc + lq + ly) bc (ahead ++ ct ++ rr ++ behind) := ⟨bo.rd, P.out.2.2.1, bcap.1, bcap.2, by omega⟩
      clear hg zo bo
      go_wp2_with (fail)
      refine (getCount_is ar (by omega) P.out.2.2.2.1).mono ?_
      rintro e w8 ⟨rfl, b8⟩
      have ar := ar.below b8
      have bl := bThen bl b8
      have hz := bl.size
      clear b8
      go_wp2_with (fail)
      refine (getRow_is ar (by omega) (by omega) P.out.2.2.2.2).mono ?_
      rintro e w9 ⟨A9, c9, rfl, o9, b9⟩
      have r9 := o9.rd
      rw [hlr] at r9
      have bl := bThen bl b9
      have hz := bl.size
      clear b9 o9
      go_wp2_with (fail)
      refine (same_is (r := true) r9 (hR.below bl).rd (by omega) (decide_eq_true rfl)).mono ?_
      rintro e w10 ⟨rfl, b10⟩
      have bl := bThen bl b10
      have hz := bl.size
      clear b10 r9
      have eq1 : ((lx : Int) + lc + lq == (lx : Int) + lc + lq + ly - ly) = true := by rw [beq_iff_eq]; omega
      go_wp2_with (fail)
      refine (works01_any _).mono ?_
      rintro e w11 ⟨rfl, b11⟩
      have bl := bThen bl b11
      clear b11
      go_wp2_with (fail)
      go_ret
      exact ⟨rfl, bl⟩
    · have d1 : (q == 0) = false := by rw [beq_eq_false_iff_ne]; exact hq
      have F := Lib.hid hp
      clear hp hq
      go_wp2_with (fail)
      refine (put_is _ hn F.out).mono ?_
      rintro e w1 ⟨A1, c1, rfl, o1, bl⟩
      have hz := bl.size
      clear o1
      go_wp2_with (at_builtin; refine Stop.mk ?_)
      refine Stop.out ?_
      refine wpList_appN _ rfl (.tmp 65) (.tmp 66) _ rfl w.heap.size 5 .u8 1 Try.underlying23 inf_b none 0 0 [] rfl (OwnN.nil _ _ _ _) X lx cx ahead rfl (hX.below bl).rd (by unfold maxLen; omega) (by omega) hz ?_
      intro uA uc uw uo hg _
      have bl := bl.grown hg hz (fun _ h => by cases h)
      have hz := bl.size
      rw [Nat.zero_add, List.nil_append] at uo
      clear hg
      go_wp2_with (fail)
      refine (count_is (p := ct) _ hn P.out.1).mono ?_
      rintro e vw ⟨vA, vc, rfl, vo, vb⟩
      rw [L.out.1] at vo
      have bl := bThen bl vb
      have uo := uo.below vb
      have hz := bl.size
      have vr := vo.rd
      clear vb vo
      go_wp2_with (at_builtin; refine Stop.mk ?_)
      refine Stop.out ?_
      refine wpList_appN _ rfl (.tmp 67) (.tmp 69) _ rfl w.heap.size 5 .u8 1 Try.underlying23 inf_b uA lx uc ahead rfl uo vA lc vc ct rfl vr (by unfold maxLen; omega) (by omega) hz ?_
      intro xA xc xw xo hg _
      have bl := bl.grown hg hz (fun g hg => (OwnN.lt uo g hg).1)
      have hz := bl.size
      clear hg uo vr
      go_wp2_with (fail)
      refine (row_is (p := rr) (hR.below bl) (by omega) P.out.2.1).mono ?_
      rintro e yw ⟨yA, yc, rfl, yo, yb⟩
      rw [L.out.2] at yo
      have bl := bThen bl yb
      have xo := xo.below yb
      have hz := bl.size
      have yr := yo.rd
      clear yb yo
      go_wp2_with (at_builtin; refine Stop.mk ?_)
      refine Stop.out ?_
      refine wpList_appN _ rfl (.tmp 70) (.tmp 72) _ rfl w.heap.size 5 .u8 1 Try.underlying23 inf_b xA (lx + lc) xc (ahead ++ ct) rfl xo yA lq yc rr rfl yr (by unfold maxLen; omega) (by omega) hz ?_
      intro zA zc zw zo hg _
      have bl := bl.grown hg hz (fun g hg => (OwnN.lt xo g hg).1)
      have hz := bl.size
      clear hg xo yr
      go_wp2_with (at_builtin; refine Stop.mk ?_)
      refine Stop.out ?_
      refine wpList_appN _ rfl (.tmp 73) (.tmp 74) _ rfl w.heap.size 5 .u8 1 Try.underlying23 inf_b zA (lx + lc + lq) zc (ahead ++ ct ++ rr) rfl zo Y ly cy behind rfl (hY.below bl).rd (by unfold maxLen; omega) (by omega) hz ?_
      intro bA bc bw bo hg _
      have bl := bl.grown hg hz (fun g hg => (OwnN.lt zo g hg).1)
      have hz := bl.size
      have bcap := Own.len_cap bo
      have ar : Arg bw bA (lx + lc + lq + ly) bc (ahead ++ ct ++ rr ++ behind) := ⟨bo.rd, P.out.2.2.1, bcap.1, bcap.2, by omega⟩
      clear hg zo bo
      go_wp2_with (fail)
      refine (getCount_is ar (by omega) P.out.2.2.2.1).mono ?_
      rintro e w8 ⟨rfl, b8⟩
      have ar := ar.below b8
      have bl := bThen bl b8
      have hz := bl.size
      clear b8
      go_wp2_with (fail)
      refine (getRow_is ar (by omega) (by omega) P.out.2.2.2.2).mono ?_
      rintro e w9 ⟨A9, c9, rfl, o9, b9⟩
      have r9 := o9.rd
      rw [hlr] at r9
      have bl := bThen bl b9
      have hz := bl.size
      clear b9 o9
      go_wp2_with (fail)
      refine (same_is (r := true) r9 (hR.below bl).rd (by omega) (decide_eq_true rfl)).mono ?_
      rintro e w10 ⟨rfl, b10⟩
      have bl := bThen bl b10
      have hz := bl.size
      clear b10 r9
      have eq1 : ((lx : Int) + lc + lq == (lx : Int) + lc + lq + ly - ly) = true := by rw [beq_iff_eq]; omega
      go_wp2_with (fail)
      refine (works01_any _).mono ?_
      rintro e w11 ⟨rfl, b11⟩
      have bl := bThen bl b11
      clear b11
      go_wp2_with (fail)
      go_ret
      exact ⟨rfl, bl⟩
  · -- so many bytes: 4
    obtain ⟨p, q, hp⟩ : ∃ p q, putF n 4 = (p, q) := ⟨_, _, rfl⟩
    by_cases hq : q = 0
    · subst hq
      obtain ⟨hs1, hs2, hs3⟩ := putF_ok (n := n) (m := 4) (by rw [hp])
      have hpl : p = lowF n 4 := by rw [hp] at hs3; exact (Prod.mk.inj hs3).1
      have hlt : n < 256 ^ 4 := by rcases hs2 with h | h; omega; exact h
      have hlen : p.length = 4 := by rw [hpl, lowF_length]
      have hgm : getF (ahead ++ p ++ behind) lx 4 = (n, 0) := by
        rw [hpl]
        exact getF_mid ahead behind n lx 4 (by rw [hlx]) (by decide) ⟨hn.1, hlt⟩
      have hpB : IsB (ahead ++ p ++ behind) := (hX.isB.append (by rw [hpl]; exact lowF_isB _ _)).append hY.isB
      have F := Lib.hid (And.intro hp (And.intro hgm hpB))
      clear hp hgm hpB hpl hs1 hs2 hs3 hlt
      go_wp2_with (fail)
      refine (put_is _ hn F.out.1).mono ?_
      rintro e w1 ⟨A1, c1, rfl, o1, bl⟩
      rw [hlen] at o1
      have hz := bl.size
      go_wp2_with (at_builtin; refine Stop.mk ?_)
      refine Stop.out ?_
      refine wpList_appN _ rfl (.tmp 35) (.tmp 36) _ rfl w.heap.size 5 .u8 1 Try.underlying23 inf_b none 0 0 [] rfl (OwnN.nil _ _ _ _) X lx cx ahead rfl (hX.below bl).rd (by unfold maxLen; omega) (by omega) hz ?_
      intro kA kc kw ko hg _
      have bl := bl.grown hg hz (fun _ h => by cases h)
      have hz := bl.size
      rw [Nat.zero_add, List.nil_append] at ko
      have r1 := (o1.grown hg (fun _ _ h => by cases h)).rd
      clear hg o1
      go_wp2_with (at_builtin; refine Stop.mk ?_)
      refine Stop.out ?_
      refine wpList_appN _ rfl (.tmp 37) (.tmp 38) _ rfl w.heap.size 5 .u8 1 Try.underlying23 inf_b kA lx kc ahead rfl ko A1 4 c1 p rfl r1 (by unfold maxLen; omega) (by omega) hz ?_
      intro gA gc gw go hg _
      have bl := bl.grown hg hz (fun g hg => (OwnN.lt ko g hg).1)
      have hz := bl.size
      clear hg ko r1
      go_wp2_with (at_builtin; refine Stop.mk ?_)
      refine Stop.out ?_
      refine wpList_appN _ rfl (.tmp 39) (.tmp 40) _ rfl w.heap.size 5 .u8 1 Try.underlying23 inf_b gA (lx + 4) gc (ahead ++ p) rfl go Y ly cy behind rfl (hY.below bl).rd (by unfold maxLen; omega) (by omega) hz ?_
      intro mA mc mw mo hg _
      have bl := bl.grown hg hz (fun g hg => (OwnN.lt go g hg).1)
      have hz := bl.size
      have mcap := Own.len_cap mo
      have ar : Arg mw mA (lx + 4 + ly) mc (ahead ++ p ++ behind) := ⟨mo.rd, F.out.2.2, mcap.1, mcap.2, by omega⟩
      clear hg go mo
      go_wp2_with (fail)
      refine (get_is ar (by omega) (by omega) F.out.2.1).mono ?_
      rintro e w5 ⟨rfl, b5⟩
      have bl := bThen bl b5
      have hz := bl.size
      clear b5 ar
      go_wp2_with (at_builtin; refine Stop.mk ?_)
      refine Stop.out ?_
      refine wpList_appN _ rfl (.tmp 65) (.tmp 66) _ rfl w.heap.size 5 .u8 1 Try.underlying23 inf_b none 0 0 [] rfl (OwnN.nil _ _ _ _) X lx cx ahead rfl (hX.below bl).rd (by unfold maxLen; omega) (by omega) hz ?_
      intro uA uc uw uo hg _
      have bl := bl.grown hg hz (fun _ h => by cases h)
      have hz := bl.size
      rw [Nat.zero_add, List.nil_append] at uo
      clear hg
      go_wp2_with (fail)
      refine (count_is (p := ct) _ hn P.out.1).mono ?_
      rintro e vw ⟨vA, vc, rfl, vo, vb⟩
      rw [L.out.1] at vo
      have bl := bThen bl vb
      have uo := uo.below vb
      have hz := bl.size
      have vr := vo.rd
      clear vb vo
      go_wp2_with (at_builtin; refine Stop.mk ?_)
      refine Stop.out ?_
      refine wpList_appN _ rfl (.tmp 67) (.tmp 69) _ rfl w.heap.size 5 .u8 1 Try.underlying23 inf_b uA lx uc ahead rfl uo vA lc vc ct rfl vr (by unfold maxLen; omega) (by omega) hz ?_
      intro xA xc xw xo hg _
      have bl := bl.grown hg hz (fun g hg => (OwnN.lt uo g hg).1)
      have hz := bl.size
      clear hg uo vr
      go_wp2_with (fail)
      refine (row_is (p := rr) (hR.below bl) (by omega) P.out.2.1).mono ?_
      rintro e yw ⟨yA, yc, rfl, yo, yb⟩
      rw [L.out.2] at yo
      have bl := bThen bl yb
      have xo := xo.below yb
      have hz := bl.size
      have yr := yo.rd
      clear yb yo
      go_wp2_with (at_builtin; refine Stop.mk ?_)
      refine Stop.out ?_
      refine wpList_appN _ rfl (.tmp 70) (.tmp 72) _ rfl w.heap.size 5 .u8 1 Try.underlying23 inf_b xA (lx + lc) xc (ahead ++ ct) rfl xo yA lq yc rr rfl yr (by unfold maxLen; omega) (by omega) hz ?_
      intro zA zc zw zo hg _
      have bl := bl.grown hg hz (fun g hg => (OwnN.lt xo g hg).1)
      have hz := bl.size
      clear hg xo yr
      go_wp2_with (at_builtin; refine Stop.mk ?_)
      refine Stop.out ?_
      refine wpList_appN _ rfl (.tmp 73) (.tmp 74) _ rfl w.heap.size 5 .u8 1 Try.underlying23 inf_b zA (lx + lc + lq) zc (ahead ++ ct ++ rr) rfl zo Y ly cy behind rfl (hY.below bl).rd (by unfold maxLen; omega) (by omega) hz ?_
      intro bA bc bw bo hg _
      have bl := bl.grown hg hz (fun g hg => (OwnN.lt zo g hg).1)
      have hz := bl.size
      have bcap := Own.len_cap bo
      have ar : Arg bw bA (lx + lc + lq + ly) bc (ahead ++ ct ++ rr ++ behind) := ⟨bo.rd, P.out.2.2.1, bcap.1, bcap.2, by omega⟩
      clear hg zo bo
      go_wp2_with (fail)
      refine (getCount_is ar (by omega) P.out.2.2.2.1).mono ?_
      rintro e w8 ⟨rfl, b8⟩
      have ar := ar.below b8
      have bl := bThen bl b8
      have hz := bl.size
      clear b8
      go_wp2_with (fail)
      refine (getRow_is ar (by omega) (by omega) P.out.2.2.2.2).mono ?_
      rintro e w9 ⟨A9, c9, rfl, o9, b9⟩
      have r9 := o9.rd
      rw [hlr] at r9
      have bl := bThen bl b9
      have hz := bl.size
      clear b9 o9
      go_wp2_with (fail)
      refine (same_is (r := true) r9 (hR.below bl).rd (by omega) (decide_eq_true rfl)).mono ?_
      rintro e w10 ⟨rfl, b10⟩
      have bl := bThen bl b10
      have hz := bl.size
      clear b10 r9
      have eq1 : ((lx : Int) + lc + lq == (lx : Int) + lc + lq + ly - ly) = true := by rw [beq_iff_eq]; omega
      go_wp2_with (fail)
      refine (works01_any _).mono ?_
      rintro e w11 ⟨rfl, b11⟩
      have bl := bThen bl b11
      clear b11
      go_wp2_with (fail)
      go_ret
      exact ⟨rfl, bl⟩
    · have d1 : (q == 0) = false := by rw [beq_eq_false_iff_ne]; exact hq
      have F := Lib.hid hp
      clear hp hq
      go_wp2_with (fail)
      refine (put_is _ hn F.out).mono ?_
      rintro e w1 ⟨A1, c1, rfl, o1, bl⟩
      have hz := bl.size
      clear o1
      go_wp2_with (at_builtin; refine Stop.mk ?_)
      refine Stop.out ?_
      refine wpList_appN _ rfl (.tmp 65) (.tmp 66) _ rfl w.heap.size 5 .u8 1 Try.underlying23 inf_b none 0 0 [] rfl (OwnN.nil _ _ _ _) X lx cx ahead rfl (hX.below bl).rd (by unfold maxLen; omega) (by omega) hz ?_
      intro uA uc uw uo hg _
      have bl := bl.grown hg hz (fun _ h => by cases h)
      have hz := bl.size
      rw [Nat.zero_add, List.nil_append] at uo
      clear hg
      go_wp2_with (fail)
      refine (count_is (p := ct) _ hn P.out.1).mono ?_
      rintro e vw ⟨vA, vc, rfl, vo, vb⟩
      rw [L.out.1] at vo
      have bl := bThen bl vb
      have uo := uo.below vb
      have hz := bl.size
      have vr := vo.rd
      clear vb vo
      go_wp2_with (at_builtin; refine Stop.mk ?_)
      refine Stop.out ?_
      refine wpList_appN _ rfl (.tmp 67) (.tmp 69) _ rfl w.heap.size 5 .u8 1 Try.underlying23 inf_b uA lx uc ahead rfl uo vA lc vc ct rfl vr (by unfold maxLen; omega) (by omega) hz ?_
      intro xA xc xw xo hg _
      have bl := bl.grown hg hz (fun g hg => (OwnN.lt uo g hg).1)
      have hz := bl.size
      clear hg uo vr
      go_wp2_with (fail)
      refine (row_is (p := rr) (hR.below bl) (by omega) P.out.2.1).mono ?_
      rintro e yw ⟨yA, yc, rfl, yo, yb⟩
      rw [L.out.2] at yo
      have bl := bThen bl yb
      have xo := xo.below yb
      have hz := bl.size
      have yr := yo.rd
      clear yb yo
      go_wp2_with (at_builtin; refine Stop.mk ?_)
      refine Stop.out ?_
      refine wpList_appN _ rfl (.tmp 70) (.tmp 72) _ rfl w.heap.size 5 .u8 1 Try.underlying23 inf_b xA (lx + lc) xc (ahead ++ ct) rfl xo yA lq yc rr rfl yr (by unfold maxLen; omega) (by omega) hz ?_
      intro zA zc zw zo hg _
      have bl := bl.grown hg hz (fun g hg => (OwnN.lt xo g hg).1)
      have hz := bl.size
      clear hg xo yr
      go_wp2_with (at_builtin; refine Stop.mk ?_)
      refine Stop.out ?_
      refine wpList_appN _ rfl (.tmp 73) (.tmp 74) _ rfl w.heap.size 5 .u8 1 Try.underlying23 inf_b zA (lx + lc + lq) zc (ahead ++ ct ++ rr) rfl zo Y ly cy behind rfl (hY.below bl).rd (by unfold maxLen; omega) (by omega) hz ?_
      intro bA bc bw bo hg _
      have bl := bl.grown hg hz (fun g hg => (OwnN.lt zo g hg).1)
      have hz := bl.size
      have bcap := Own.len_cap bo
      have ar : Arg bw bA (lx + lc + lq + ly) bc (ahead ++ ct ++ rr ++ behind) := ⟨bo.rd, P.out.2.2.1, bcap.1, bcap.2, by omega⟩
      clear hg zo bo
      go_wp2_with (fail)
      refine (getCount_is ar (by omega) P.out.2.2.2.1).mono ?_
      rintro e w8 ⟨rfl, b8⟩
      have ar := ar.below b8
      have bl := bThen bl b8
      have hz := bl.size
      clear b8
      go_wp2_with (fail)
      refine (getRow_is ar (by omega) (by omega) P.out.2.2.2.2).mono ?_
      rintro e w9 ⟨A9, c9, rfl, o9, b9⟩
      have r9 := o9.rd
      rw [hlr] at r9
      have bl := bThen bl b9
      have hz := bl.size
      clear b9 o9
      go_wp2_with (fail)
      refine (same_is (r := true) r9 (hR.below bl).rd (by omega) (decide_eq_true rfl)).mono ?_
      rintro e w10 ⟨rfl, b10⟩
      have bl := bThen bl b10
      have hz := bl.size
      clear b10 r9
      have eq1 : ((lx : Int) + lc + lq == (lx : Int) + lc + lq + ly - ly) = true := by rw [beq_iff_eq]; omega
      go_wp2_with (fail)
      refine (works01_any _).mono ?_
      rintro e w11 ⟨rfl, b11⟩
      have bl := bThen bl b11
      clear b11
      go_wp2_with (fail)
      go_ret
      exact ⟨rfl, bl⟩
  · -- so many bytes: 8
    obtain ⟨p, q, hp⟩ : ∃ p q, putF n 8 = (p, q) := ⟨_, _, rfl⟩
    by_cases hq : q = 0
    · subst hq
      obtain ⟨hs1, hs2, hs3⟩ := putF_ok (n := n) (m := 8) (by rw [hp])
      have hpl : p = lowF n 8 := by rw [hp] at hs3; exact (Prod.mk.inj hs3).1
      have hlt : n < 256 ^ 8 := by have := hn.2; simpa using this
      have hlen : p.length = 8 := by rw [hpl, lowF_length]
      have hgm : getF (ahead ++ p ++ behind) lx 8 = (n, 0) := by
        rw [hpl]
        exact getF_mid ahead behind n lx 8 (by rw [hlx]) (by decide) ⟨hn.1, hlt⟩
      have hpB : IsB (ahead ++ p ++ behind) := (hX.isB.append (by rw [hpl]; exact lowF_isB _ _)).append hY.isB
      have F := Lib.hid (And.intro hp (And.intro hgm hpB))
      clear hp hgm hpB hpl hs1 hs2 hs3 hlt
      go_wp2_with (fail)
      refine (put_is _ hn F.out.1).mono ?_
      rintro e w1 ⟨A1, c1, rfl, o1, bl⟩
      rw [hlen] at o1
      have hz := bl.size
      go_wp2_with (at_builtin; refine Stop.mk ?_)
      refine Stop.out ?_
      refine wpList_appN _ rfl (.tmp 35) (.tmp 36) _ rfl w.heap.size 5 .u8 1 Try.underlying23 inf_b none 0 0 [] rfl (OwnN.nil _ _ _ _) X lx cx ahead rfl (hX.below bl).rd (by unfold maxLen; omega) (by omega) hz ?_
      intro kA kc kw ko hg _
      have bl := bl.grown hg hz (fun _ h => by cases h)
      have hz := bl.size
      rw [Nat.zero_add, List.nil_append] at ko
      have r1 := (o1.grown hg (fun _ _ h => by cases h)).rd
      clear hg o1
      go_wp2_with (at_builtin; refine Stop.mk ?_)
      refine Stop.out ?_
      refine wpList_appN _ rfl (.tmp 37) (.tmp 38) _ rfl w.heap.size 5 .u8 1 Try.underlying23 inf_b kA lx kc ahead rfl ko A1 8 c1 p rfl r1 (by unfold maxLen; omega) (by omega) hz ?_
      intro gA gc gw go hg _
      have bl := bl.grown hg hz (fun g hg => (OwnN.lt ko g hg).1)
      have hz := bl.size
      clear hg ko r1
      go_wp2_with (at_builtin; refine Stop.mk ?_)
      refine Stop.out ?_
      refine wpList_appN _ rfl (.tmp 39) (.tmp 40) _ rfl w.heap.size 5 .u8 1 Try.underlying23 inf_b gA (lx + 8) gc (ahead ++ p) rfl go Y ly cy behind rfl (hY.below bl).rd (by unfold maxLen; omega) (by omega) hz ?_
      intro mA mc mw mo hg _
      have bl := bl.grown hg hz (fun g hg => (OwnN.lt go g hg).1)
      have hz := bl.size
      have mcap := Own.len_cap mo
      have ar : Arg mw mA (lx + 8 + ly) mc (ahead ++ p ++ behind) := ⟨mo.rd, F.out.2.2, mcap.1, mcap.2, by omega⟩
      clear hg go mo
      go_wp2_with (fail)
      refine (get_is ar (by omega) (by omega) F.out.2.1).mono ?_
      rintro e w5 ⟨rfl, b5⟩
      have bl := bThen bl b5
      have hz := bl.size
      clear b5 ar
      go_wp2_with (at_builtin; refine Stop.mk ?_)
      refine Stop.out ?_
      refine wpList_appN _ rfl (.tmp 65) (.tmp 66) _ rfl w.heap.size 5 .u8 1 Try.underlying23 inf_b none 0 0 [] rfl (OwnN.nil _ _ _ _) X lx cx ahead rfl (hX.below bl).rd (by unfold maxLen; omega) (by omega) hz ?_
      intro uA uc uw uo hg _
      have bl := bl.grown hg hz (fun _ h => by cases h)
      have hz := bl.size
      rw [Nat.zero_add, List.nil_append] at uo
      clear hg
      go_wp2_with (fail)
      refine (count_is (p := ct) _ hn P.out.1).mono ?_
      rintro e vw ⟨vA, vc, rfl, vo, vb⟩
      rw [L.out.1] at vo
      have bl := bThen bl vb
      have uo := uo.below vb
      have hz := bl.size
      have vr := vo.rd
      clear vb vo
      go_wp2_with (at_builtin; refine Stop.mk ?_)
      refine Stop.out ?_
      refine wpList_appN _ rfl (.tmp 67) (.tmp 69) _ rfl w.heap.size 5 .u8 1 Try.underlying23 inf_b uA lx uc ahead rfl uo vA lc vc ct rfl vr (by unfold maxLen; omega) (by omega) hz ?_
      intro xA xc xw xo hg _
      have bl := bl.grown hg hz (fun g hg => (OwnN.lt uo g hg).1)
      have hz := bl.size
      clear hg uo vr
      go_wp2_with (fail)
      refine (row_is (p := rr) (hR.below bl) (by omega) P.out.2.1).mono ?_
      rintro e yw ⟨yA, yc, rfl, yo, yb⟩
      rw [L.out.2] at yo
      have bl := bThen bl yb
      have xo := xo.below yb
      have hz := bl.size
      have yr := yo.rd
      clear yb yo
      go_wp2_with (at_builtin; refine Stop.mk ?_)
      refine Stop.out ?_
      refine wpList_appN _ rfl (.tmp 70) (.tmp 72) _ rfl w.heap.size 5 .u8 1 Try.underlying23 inf_b xA (lx + lc) xc (ahead ++ ct) rfl xo yA lq yc rr rfl yr (by unfold maxLen; omega) (by omega) hz ?_
      intro zA zc zw zo hg _
      have bl := bl.grown hg hz (fun g hg => (OwnN.lt xo g hg).1)
      have hz := bl.size
      clear hg xo yr
      go_wp2_with (at_builtin; refine Stop.mk ?_)
      refine Stop.out ?_
      refine wpList_appN _ rfl (.tmp 73) (.tmp 74) _ rfl w.heap.size 5 .u8 1 Try.underlying23 inf_b zA (lx + lc + lq) zc (ahead ++ ct ++ rr) rfl zo Y ly cy behind rfl (hY.below bl).rd (by unfold maxLen; omega) (by omega) hz ?_
      intro bA bc bw bo hg _
      have bl := bl.grown hg hz (fun g hg => (OwnN.lt zo g hg).1)
      have hz := bl.size
      have bcap := Own.len_cap bo
      have ar : Arg bw bA (lx + lc + lq + ly) bc (ahead ++ ct ++ rr ++ behind) := ⟨bo.rd, P.out.2.2.1, bcap.1, bcap.2, by omega⟩
      clear hg zo bo
      go_wp2_with (fail)
      refine (getCount_is ar (by omega) P.out.2.2.2.1).mono ?_
      rintro e w8 ⟨rfl, b8⟩
      have ar := ar.below b8
      have bl := bThen bl b8
      have hz := bl.size
      clear b8
      go_wp2_with (fail)
      refine (getRow_is ar (by omega) (by omega) P.out.2.2.2.2).mono ?_
      rintro e w9 ⟨A9, c9, rfl, o9, b9⟩
      have r9 := o9.rd
      rw [hlr] at r9
      have bl := bThen bl b9
      have hz := bl.size
      clear b9 o9
      go_wp2_with (fail)
      refine (same_is (r := true) r9 (hR.below bl).rd (by omega) (decide_eq_true rfl)).mono ?_
      rintro e w10 ⟨rfl, b10⟩
      have bl := bThen bl b10
      have hz := bl.size
      clear b10 r9
      have eq1 : ((lx : Int) + lc + lq == (lx : Int) + lc + lq + ly - ly) = true := by rw [beq_iff_eq]; omega
      go_wp2_with (fail)
      refine (works01_any _).mono ?_
      rintro e w11 ⟨rfl, b11⟩
      have bl := bThen bl b11
      clear b11
      go_wp2_with (fail)
      go_ret
      exact ⟨rfl, bl⟩
    · exact absurd (by
        have h8 : putF n 8 = (lowF n 8, 0) := if_pos ⟨by decide, .inl (by omega)⟩
        rw [h8] at hp
        exact (Prod.mk.inj hp).2.symm) hq
end Go.Proofs.Ytpbnodomopdjhaa
