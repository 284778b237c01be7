/- The statements' 'works' of layer 6; contracts under their answers' names. -/
import Derived.Test.YtejablcdpakgoaaCoinL
namespace Go.Proofs.Ytejablcdpakgoaa
open Go.RowKit Go.Proofs En Co
set_option linter.unusedVariables false
set_option linter.unusedSimpArgs false
attribute [local go_sem ↓] ld_point_eq ld_coin_eq ld_hash_eq st_point_eq st_coin_eq bd_point_eq bd_coin_eq
attribute [local go_sem] ld_point_run ld_coin_run ld_hash_run st_point_run st_coin_run bd_point_zero bd_coin_zero bd_point_of bd_coin_of hash_at rowIs_34 rowIs_37 rowIs_both hasAt_both cellsAt_both

theorem below_slot {B : Nat} {a w : World} (h : Below B a w) (hB : B ≤ a.heap.size) (o : Obj) (cs : Array Value) : Below B a ((w.alloc o).setRow w.heap.size cs) :=
  below_setRow (belA h o hB) (Nat.le_trans hB h.size) (by have := h.size; simp; omega) cs
theorem put06_is {m : Cm} {w : World} {p : List Int} {q : Int} (hm : m.ok w) (h : putCF m.c = (p, q)) :
    Calls Try.prog 9 #[.agg (cc m).toArray] w fun e w' => ∃ A k, e = .returned (.tuple #[.slice A p.length k, .int .i64 q]) ∧ OwnB w' w.heap.size A p.length k p ∧ Below w.heap.size w w' := by
  have C := put06_any m w hm
  rw [h] at C
  exact C
theorem rput06_is {m : Cm} {w : World} {p : List Int} {q : Int} (hm : m.ok w) (h : putCF m.c = (p, q)) :
    Calls Try.prog 16 #[.agg (cc m).toArray] w fun e w' => ∃ A k, e = .returned (.tuple #[.slice A p.length k, .int .i64 q]) ∧ OwnB w' w.heap.size A p.length k p ∧ Below w.heap.size w w' := by
  have C := rput06_any m w hm
  rw [h] at C
  exact C
theorem getC_is {A : Option Addr} {n c : Nat} {b : List Int} {at_ : Int} {w : World} {d : Cn} {nx q : Int} (hb : Arg w A n c b) (ha : -9223372036854775808 ≤ at_ ∧ at_ ≤ 9223372036854775807) (h : getCF b at_ = (d, nx, q)) :
    Calls Try.prog 10 #[.slice A n c, .int .i64 at_] w fun e w' => ∃ A' k, e = .returned (.tuple #[.agg (cc ⟨d, A', k⟩).toArray, .int .i64 nx, .int .i64 q]) ∧ OwnB w' w.heap.size A' d.l.length k d.l ∧ Below w.heap.size w w' := by
  have C := getC_any A n c b at_ w hb ha
  rw [h] at C
  exact C
theorem rgetC_is {A : Option Addr} {n c : Nat} {b : List Int} {at_ : Int} {w : World} {d : Cn} {nx q : Int} (hb : Arg w A n c b) (ha : -9223372036854775808 ≤ at_ ∧ at_ ≤ 9223372036854775807) (h : getCF b at_ = (d, nx, q)) :
    Calls Try.prog 24 #[.slice A n c, .int .i64 at_] w fun e w' => ∃ A' k, e = .returned (.tuple #[.agg (cc ⟨d, A', k⟩).toArray, .int .i64 nx, .int .i64 q]) ∧ OwnB w' w.heap.size A' d.l.length k d.l ∧ Below w.heap.size w w' := by
  have C := rgetC_any A n c b at_ w hb ha
  rw [h] at C
  exact C
theorem readC_is {A : Option Addr} {n c : Nat} {b : List Int} {w : World} {d : Cn} {q : Int} (hb : Arg w A n c b) (h : readCF b = (d, q)) :
    Calls Try.prog 25 #[.slice A n c] w fun e w' => ∃ A' k, e = .returned (.tuple #[.agg (cc ⟨d, A', k⟩).toArray, .int .i64 q]) ∧ OwnB w' w.heap.size A' d.l.length k d.l ∧ Below w.heap.size w w' := by
  have C := readC_any A n c b w hb
  rw [h] at C
  exact C
theorem rreadC_is {A : Option Addr} {n c : Nat} {b : List Int} {w : World} {d : Cn} {q : Int} (hb : Arg w A n c b) (h : readCF b = (d, q)) :
    Calls Try.prog 26 #[.slice A n c] w fun e w' => ∃ A' k, e = .returned (.tuple #[.agg (cc ⟨d, A', k⟩).toArray, .int .i64 q]) ∧ OwnB w' w.heap.size A' d.l.length k d.l ∧ Below w.heap.size w w' := by
  have C := rreadC_any A n c b w hb
  rw [h] at C
  exact C
theorem getPoint_is {A : Option Addr} {n c : Nat} {b : List Int} {at_ : Int} {w : World} {d : Pt} {nx q : Int} (hb : Arg w A n c b) (ha : -9223372036854775808 ≤ at_ ∧ at_ ≤ 9223372036854775807) (h : getPF b at_ = (d, nx, q)) :
    Calls Try.prog 20 #[.slice A n c, .int .i64 at_] w fun e w' => e = .returned (.tuple #[.agg (pc d).toArray, .int .i64 nx, .int .i64 q]) ∧ Below w.heap.size w w' := by
  have C := getPoint_any A n c b at_ w hb ha
  rw [h] at C
  exact C
theorem rgetPoint_is {A : Option Addr} {n c : Nat} {b : List Int} {at_ : Int} {w : World} {d : Pt} {nx q : Int} (hb : Arg w A n c b) (ha : -9223372036854775808 ≤ at_ ∧ at_ ≤ 9223372036854775807) (h : getPF b at_ = (d, nx, q)) :
    Calls Try.prog 21 #[.slice A n c, .int .i64 at_] w fun e w' => e = .returned (.tuple #[.agg (pc d).toArray, .int .i64 nx, .int .i64 q]) ∧ Below w.heap.size w w' := by
  have C := rgetPoint_any A n c b at_ w hb ha
  rw [h] at C
  exact C
theorem getOut_is {A : Option Addr} {n c : Nat} {b : List Int} {at_ : Int} {w : World} {v : Int} {l : List Int} {nx q : Int} (hb : Arg w A n c b) (ha : -9223372036854775808 ≤ at_ ∧ at_ ≤ 9223372036854775807) (h : getOF b at_ = (v, l, nx, q)) :
    Calls Try.prog 22 #[.slice A n c, .int .i64 at_] w fun e w' => ∃ A' k, e = .returned (.tuple #[.agg #[.int .u64 v, .slice A' l.length k], .int .i64 nx, .int .i64 q]) ∧ OwnB w' w.heap.size A' l.length k l ∧ Below w.heap.size w w' := by
  have C := getOut_any A n c b at_ w hb ha
  rw [h] at C
  exact C
theorem rgetOut_is {A : Option Addr} {n c : Nat} {b : List Int} {at_ : Int} {w : World} {v : Int} {l : List Int} {nx q : Int} (hb : Arg w A n c b) (ha : -9223372036854775808 ≤ at_ ∧ at_ ≤ 9223372036854775807) (h : getOF b at_ = (v, l, nx, q)) :
    Calls Try.prog 23 #[.slice A n c, .int .i64 at_] w fun e w' => ∃ A' k, e = .returned (.tuple #[.agg #[.int .u64 v, .slice A' l.length k], .int .i64 nx, .int .i64 q]) ∧ OwnB w' w.heap.size A' l.length k l ∧ Below w.heap.size w w' := by
  have C := rgetOut_any A n c b at_ w hb ha
  rw [h] at C
  exact C
theorem putOut_is {v : Int} {A : Option Addr} {k : Nat} {l : List Int} {w : World} {p : List Int} {q : Int} (hv : 0 ≤ v ∧ v < 18446744073709551616) (ha : Arg w A l.length k l) (h : putOF v l = (p, q)) :
    Calls Try.prog 14 #[.agg #[.int .u64 v, .slice A l.length k]] w fun e w' => ∃ B d, e = .returned (.tuple #[.slice B p.length d, .int .i64 q]) ∧ OwnB w' w.heap.size B p.length d p ∧ Below w.heap.size w w' := by
  have C := putOut_any v A k l w hv ha
  rw [h] at C
  exact C
theorem rputOut_is {v : Int} {A : Option Addr} {k : Nat} {l : List Int} {w : World} {p : List Int} {q : Int} (hv : 0 ≤ v ∧ v < 18446744073709551616) (ha : Arg w A l.length k l) (h : putOF v l = (p, q)) :
    Calls Try.prog 15 #[.agg #[.int .u64 v, .slice A l.length k]] w fun e w' => ∃ B d, e = .returned (.tuple #[.slice B p.length d, .int .i64 q]) ∧ OwnB w' w.heap.size B p.length d p ∧ Below w.heap.size w w' := by
  have C := rputOut_any v A k l w hv ha
  rw [h] at C
  exact C
theorem same06_is {a b : Cm} {w : World} {r : Bool} (ha : a.ok w) (hb : b.ok w) (h : decide (a.c = b.c) = r) :
    Calls Try.prog 19 #[.agg (cc a).toArray, .agg (cc b).toArray] w fun e w' => e = .returned (.bool r) ∧ Below w.heap.size w w' := by
  have C := same06_any a b w ha hb
  rw [h] at C
  exact C
theorem rsame06_is {a b : Cm} {w : World} {r : Bool} (ha : a.ok w) (hb : b.ok w) (h : decide (a.c = b.c) = r) :
    Calls Try.prog 11 #[.agg (cc a).toArray, .agg (cc b).toArray] w fun e w' => e = .returned (.bool r) ∧ Below w.heap.size w w' := by
  have C := rsame06_any a b w ha hb
  rw [h] at C
  exact C
theorem less_is {a b : Pt} {w : World} {r : Bool} (ha : a.ok) (hb : b.ok) (h : lessF a b = r) :
    Calls Try.prog 30 #[.agg (pc a).toArray, .agg (pc b).toArray] w fun e w' => e = .returned (.bool r) ∧ Below w.heap.size w w' := by
  have C := less_any a b ha hb w
  rw [h] at C
  exact C
theorem rless_is {a b : Pt} {w : World} {r : Bool} (ha : a.ok) (hb : b.ok) (h : lessF a b = r) :
    Calls Try.prog 31 #[.agg (pc a).toArray, .agg (pc b).toArray] w fun e w' => e = .returned (.bool r) ∧ Below w.heap.size w w' := by
  have C := rless_any a b ha hb w
  rw [h] at C
  exact C
def cnV (v : Int) : Cn := ⟨zeroPt, v, false, []⟩
theorem bd_coin_v (w : World) (v : Int) : (bd_coin #[(1, .int .u64 v)]).run Try.prog w = .ok (.agg (cc ⟨cnV v, none, 0⟩).toArray) w := by
  show (Instr.build 31 #[(1, .int .u64 v)]).run Try.prog w = _
  kernel_rfl
theorem cnV_ok (w : World) (v : Int) (hv : 0 ≤ v ∧ v < 18446744073709551616) : Cm.ok w ⟨cnV v, none, 0⟩ := ⟨⟨zeroPt_ok, hv, IsB.nil⟩, RdN.nil _ _ _, IsB.nil, Nat.le_refl _, Nat.zero_le _, Nat.zero_le _⟩
attribute [local go_sem] bd_coin_v

set_option maxRecDepth 10000 in
set_option maxHeartbeats 800000 in
theorem works06_any (w : World) :
    Calls Try.prog 12 #[] w fun e w' => e = .returned (.bool true) ∧ Below w.heap.size w w' := by
  obtain ⟨p, hp⟩ : ∃ p, putCF (cnV 5) = (p, 0) := ⟨_, by rw [show putCF (cnV 5) = ((putCF (cnV 5)).1, (putCF (cnV 5)).2) from rfl]; rfl⟩
  have hpl : p.length = 48 := by have : p = (putCF (cnV 5)).1 := by rw [hp]
                                 rw [this]; decide
  have hpB : IsB p := by have : p = (putCF (cnV 5)).1 := by rw [hp]
                         rw [this]; exact isB_dec (by decide)
  have hg : getCF p 49 = (zeroCn, 0, 2) := by
    have h1 : getPF p 49 = (zeroPt, 0, 2) := by unfold getPF partF; rw [hpl]; rfl
    unfold getCF; rw [h1]; rfl
  have P := Lib.hid (And.intro hp (And.intro hpl (And.intro hpB hg)))
  have hokZ := cc_ok (m := ⟨zeroCn, none, 0⟩) zeroPt_ok
  clear hp hpl hpB hg
  go_enter Try.func12, Try.ntmps12
  go_wp2_with (fail)
  refine (put06_is (cnV_ok _ 5 (by omega)) P.out.1).mono ?_
  rintro e w1 ⟨A1, c1, rfl, ho1, hbl⟩
  have ha1 : Arg w1 A1 p.length c1 p := ⟨ho1.rd, P.out.2.2.1, (Own.len_cap ho1).1, (Own.len_cap ho1).2, by rw [P.out.2.1]; decide⟩
  rw [P.out.2.1] at ha1 ⊢
  clear ho1
  go_wp2_with (fail)
  refine (readC_is (d := zeroCn) (q := 4) ⟨RdN.nil _ _ _, IsB.nil, Nat.le_refl _, Nat.zero_le _, Nat.zero_le _⟩ (by decide)).mono ?_
  rintro e w2 ⟨A2, c2, rfl, ho2, hb2⟩
  have hok2 := cc_ok (m := ⟨zeroCn, A2, c2⟩) zeroPt_ok
  have ha2 := ha1.below hb2
  have hbl := bThen hbl hb2
  clear ho2 hb2 ha1
  go_wp2_with (fail)
  refine (getC_is (ha2.below (below_slot (Below.refl _ _) (Nat.le_refl _) _ _)) (by omega) P.out.2.2.2).mono ?_
  rintro e w3 ⟨A3, c3, rfl, ho3, hb3⟩
  have hok3 := cc_ok (m := ⟨zeroCn, A3, c3⟩) zeroPt_ok
  have hbl := bThen (below_slot hbl (Nat.le_refl _) _ _) hb3
  clear ho3 hb3 ha2
  go_wp2_with (fail)
  refine (put06_is (p := []) (q := 2) (cnV_ok _ 1125899906842625 (by omega)) (putCF_err (by decide))).mono ?_
  rintro e w4 ⟨A4, c4, rfl, ho4, hb4⟩
  have hbl := bThen (below_slot hbl (Nat.le_refl _) _ _) hb4
  clear ho4 hb4
  go_wp2_with (fail)
  refine (putPoint_any zeroPt zeroPt_ok _).mono ?_
  rintro e w5 ⟨A5, c5, rfl, ho5, hb5⟩
  have hbl := bThen hbl hb5
  clear ho5 hb5
  go_wp2_with (fail)
  go_ret
  exact ⟨rfl, hbl⟩
end Go.Proofs.Ytejablcdpakgoaa
