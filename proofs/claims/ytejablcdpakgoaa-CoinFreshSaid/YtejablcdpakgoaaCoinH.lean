/- What GetPoint answers, in the program and in the reference. -/
import Derived.Test.YtejablcdpakgoaaCoinG
import Derived.Test.YtejablcdpakgoaaCoinS
namespace Go.Proofs.Ytejablcdpakgoaa
open Go.RowKit Go.Proofs En Co
set_option linter.unusedVariables false
set_option linter.unusedSimpArgs false
attribute [local go_sem ↓] ld_point_eq ld_coin_eq ld_hash_eq st_point_eq st_coin_eq bd_point_eq bd_coin_eq
attribute [local go_sem] ld_point_run ld_coin_run ld_hash_run st_point_run st_coin_run bd_point_zero bd_coin_zero bd_point_of bd_coin_of hash_at

theorem ptF_ok {l : List Int} (hB : IsB l) (hl : l.length = 38) : (ptF l).ok := by
  have h2 := getF_bound hB 32 2
  have h4 := getF_bound hB 34 4
  refine ⟨?_, hB.take _, ⟨h2.1, ?_⟩, ⟨h4.1, ?_⟩⟩
  · show (l.take 32).length = 32; rw [List.length_take]; omega
  · show (getF l 32 2).1 ≤ 65535; have : (getF l 32 2).1 < 256 ^ 2 := h2.2.1; omega
  · show (getF l 34 4).1 ≤ 4294967295; have : (getF l 34 4).1 < 256 ^ 4 := h4.2.1; omega
theorem getPF_err {b : List Int} {at_ q : Int} {p : List Int} (h : partF b at_ 38 = (p, q)) (hq : q ≠ 0) : getPF b at_ = (zeroPt, 0, q) := by unfold getPF; rw [h, if_neg hq]
theorem getPF_ok {b : List Int} {at_ : Int} {p : List Int} (h : partF b at_ 38 = (p, 0)) : getPF b at_ = (ptF p, at_ + 38, 0) := by unfold getPF; rw [h, if_pos rfl]
theorem own_at {w : World} {base : Nat} {A : Option Addr} {n c : Nat} {p : List Int} (h : OwnB w base A n c p) (hn : 0 < n) : ∃ g, A = some ⟨g, 0, none⟩ := by
  rcases h.2 with ⟨_, h0, _⟩ | ⟨g, _, h, _⟩
  · omega
  · exact ⟨g, h⟩
theorem rd_has {w : World} {g n : Nat} {p : List Int} (h : RdN w .u8 (some ⟨g, 0, none⟩) n p) {k : Nat} (hk : k ≤ n) : hasAt w g 0 k ∧ cellsAt w g 0 k = (ns .u8 (p.take k)).toArray := by
  have hl := h.len
  have hr : w.rangeAt g 0 (ns .u8 (p.take k)) := by
    intro j v hv
    have hj : j < k := by have := (List.getElem?_eq_some_iff.1 hv).1; rw [ns_length, List.length_take] at this; omega
    obtain ⟨ad, e, _, hc⟩ := h.at_ (i := j) (by omega)
    injection e with e
    subst e
    rw [add_new] at hc
    rw [Nat.zero_add, hc, ← hv, ns_get _ _ _ (by rw [List.length_take]; omega)]
    congr 2
    rw [List.getD_eq_getElem?_getD, List.getD_eq_getElem?_getD, List.getElem?_take_of_lt hj]
  have hlen : (ns .u8 (p.take k)).length = k := by rw [ns_length, List.length_take]; omega
  exact ⟨hasAt_of hr hlen, cellsAt_of hr hlen⟩
theorem rowIs_of {w : World} {b n : Nat} {cs : Array Value} {t : TypeId} (h : w.heap[b]? = some (.cells cs t (0, 0))) (hn : cs.size = n) : rowIs w b n := ⟨cs, t, h, hn⟩
theorem rowIs.below {w w' : World} {b n : Nat} (h : rowIs w b n) (hb : Below w.heap.size w w') : rowIs w' b n := by
  obtain ⟨old, t, hg, hs⟩ := h
  exact ⟨old, t, (hb.block b (Array.getElem?_eq_some_iff.1 hg).1).trans hg, hs⟩
theorem rowIs.lt {w : World} {b n : Nat} (h : rowIs w b n) : b < w.heap.size := by
  obtain ⟨old, t, hg, hs⟩ := h
  exact (Array.getElem?_eq_some_iff.1 hg).1

set_option maxRecDepth 10000 in
set_option maxHeartbeats 1000000 in
theorem getPoint_any (A : Option Addr) (n c : Nat) (b : List Int) (at_ : Int) (w : World) (hb : Arg w A n c b) (ha : -9223372036854775808 ≤ at_ ∧ at_ ≤ 9223372036854775807) :
    Calls Try.prog 20 #[.slice A n c, .int .i64 at_] w fun e w' => e = .returned (.tuple #[.agg (pc (getPF b at_).1).toArray, .int .i64 (getPF b at_).2.1, .int .i64 (getPF b at_).2.2]) ∧ Below w.heap.size w w' := by
  obtain ⟨p, q, hpq⟩ : ∃ p q, partF b at_ 38 = (p, q) := ⟨_, _, rfl⟩
  have hlen := hb.rd.len
  have hn := hb.len
  by_cases hq : q = 0
  · subst hq
    rw [getPF_ok hpq]
    obtain ⟨h1, h2, h3, h4⟩ := partF_ok (b := b) (at_ := at_) (n := 38) (by rw [hpq])
    have hpl : p.length = 38 := by have := partF_length (b := b) (at_ := at_) (n := 38) (by rw [hpq]); rw [hpq] at this; simp only at this; omega
    have hpB : IsB p := by have := partF_isB hb.isB at_ 38; rw [hpq] at this; exact this
    have hok := ptF_ok hpB hpl
    obtain ⟨x, ex, hx⟩ : ∃ x e, getF p 32 2 = (x, e) := ⟨_, _, rfl⟩
    obtain ⟨y, ey, hy⟩ : ∃ x e, getF p 34 4 = (x, e) := ⟨_, _, rfl⟩
    have hpt : ptF p = ⟨p.take 32, x, y⟩ := by unfold ptF; rw [hx, hy]
    rw [hpt] at hok ⊢
    have hxb := hok.n
    have hyb := hok.h
    have hmk : mkPt (ns .u8 (p.take 32)).toArray x y = (pc ⟨p.take 32, x, y⟩).toArray := mkPt_pc ⟨p.take 32, x, y⟩
    have hokA := pc_ok hok
    have hsz : (ns .u8 (p.take 32)).toArray.size = 32 := by simp [ns_length, hpl]
    have i1 : at_ + 38 ≤ 9223372036854775807 := by omega
    have PP := Lib.hid (And.intro hpq (And.intro hpl (And.intro hpB (And.intro hx hy))))
    clear hpq h4 hx hy hpt hok hpB hpl hlen
    simp only at hxb hyb
    go_enter Try.func20, Try.ntmps20
    go_wp2_with (fail)
    refine (part_is (hb.below ((Below.refl w.heap.size w).alloc (Nat.le_refl _) _)) ha (by omega) PP.out.1).mono ?_
    rintro e w1 ⟨A1, c1, rfl, ho1, hb1⟩
    have hri : rowIs w1 w.heap.size 34 := (rowIs_of (heap_alloc_new w _) rfl).below hb1
    have hbl : Below w.heap.size w w1 := ((Below.refl w.heap.size w).alloc (Nat.le_refl _) _).trans (hb1.mono (by simp))
    rw [PP.out.2.1] at ho1 ⊢
    obtain ⟨g, rfl⟩ := own_at ho1 (by omega)
    have ha1 : Arg w1 (some ⟨g, 0, none⟩) 38 c1 p := ⟨ho1.rd, PP.out.2.2.1, (Own.len_cap ho1).1, (Own.len_cap ho1).2, by omega⟩
    have hc1 := (Own.len_cap ho1).1
    clear ho1 hb1
    go_wp2_with (fail)
    refine (get_is ha1 (by omega) (by omega) PP.out.2.2.2.1).mono ?_
    rintro e w2 ⟨rfl, hb2⟩
    have hri := hri.below hb2
    have ha2 := ha1.below hb2
    have hbl := bThen hbl hb2
    clear hb2 ha1
    go_wp2_with (fail)
    refine (get_is ha2 (by omega) (by omega) PP.out.2.2.2.2).mono ?_
    rintro e w3 ⟨rfl, hb3⟩
    have hri := hri.below hb3
    obtain ⟨hh, hc⟩ := rd_has (ha2.below hb3).rd (k := 32) (by omega)
    have hbl := bThen hbl hb3
    have hz := hbl.size
    obtain ⟨t, hrow⟩ := row_set hri (pc ⟨p.take 32, x, y⟩).toArray
    have RW := Lib.hid hrow
    have BL := Lib.hid hbl
    clear hb3 ha2 hrow hbl
    go_wp2_with (fail)
    refine bodyPost_ret (res_cell3 Try.results20 rfl (rd_point _ _ _ _ RW.out hokA.1)) rfl ?_
    exact ⟨rfl, below_setRow BL.out (Nat.le_refl _) hz _⟩
  · rw [getPF_err hpq hq]
    have hp0 : p = [] := by have := partF_err (b := b) (at_ := at_) (n := 38) (by rw [hpq]; exact hq); rw [hpq] at this; exact this
    subst hp0
    have hokA := pc_ok zeroPt_ok
    have PP := Lib.hid hpq
    have d1 : (q != 0) = true := by rw [bne_iff_ne]; exact hq
    clear hpq hq hlen
    go_enter Try.func20, Try.ntmps20
    go_wp2_with (fail)
    refine (part_is (hb.below ((Below.refl w.heap.size w).alloc (Nat.le_refl _) _)) ha (by omega) PP.out).mono ?_
    rintro e w1 ⟨A1, c1, rfl, ho1, hb1⟩
    have hri : rowIs w1 w.heap.size 34 := (rowIs_of (heap_alloc_new w _) rfl).below hb1
    have hbl : Below w.heap.size w w1 := ((Below.refl w.heap.size w).alloc (Nat.le_refl _) _).trans (hb1.mono (by simp))
    have hz := hbl.size
    obtain ⟨t, hrow⟩ := row_set hri (pc zeroPt).toArray
    have RW := Lib.hid hrow
    have BL := Lib.hid hbl
    clear ho1 hb1 hrow hbl
    go_wp2_with (fail)
    refine bodyPost_ret (res_cell3 Try.results20 rfl (rd_point _ _ _ _ RW.out hokA.1)) rfl ?_
    exact ⟨rfl, below_setRow BL.out (Nat.le_refl _) hz _⟩
end Go.Proofs.Ytejablcdpakgoaa
