/- What the reference's GetPoint answers. -/
import Derived.Test.YtejablcdpakgoaaCoinH
namespace Go.Proofs.Ytejablcdpakgoaa
open Go.RowKit Go.Proofs En Co
set_option linter.unusedVariables false
set_option linter.unusedSimpArgs false
attribute [local go_sem ↓] ld_point_eq ld_coin_eq ld_hash_eq st_point_eq st_coin_eq bd_point_eq bd_coin_eq
attribute [local go_sem] ld_point_run ld_coin_run ld_hash_run st_point_run st_coin_run bd_point_zero bd_coin_zero bd_point_of bd_coin_of hash_at

/-- a point's box while its hash is filled -/
def filling (p : List Int) (k : Nat) : Pt := ⟨p.take k ++ List.replicate (32 - k) 0, 0, 0⟩
theorem filling_len (p : List Int) (k : Nat) (hp : p.length = 38) (hk : k ≤ 32) : (filling p k).tx.length = 32 := by
  unfold filling
  simp only [List.length_append, List.length_take, List.length_replicate]
  omega
theorem filling_set (p : List Int) (k : Nat) (hp : p.length = 38) (hk : k < 32) : (pc (filling p k)).toArray.setIfInBounds k (.int .u8 (p.getD k 0)) = (pc (filling p (k + 1))).toArray := by
  have hf := filling_len p k hp (by omega)
  have hs : (p.take k ++ List.replicate (32 - k) 0).set k (p.getD k 0) = p.take (k + 1) ++ List.replicate (32 - (k + 1)) 0 := by
    rw [set_fill _ _ _ _ k (by rw [List.length_take]; omega) (by omega), ← take_snoc0 p k (by omega), Nat.sub_sub]
  apply Array.ext'
  unfold pc
  rw [Array.toList_setIfInBounds]
  show (ns .u8 (filling p k).tx ++ [Value.int .u16 0, Value.int .u32 0]).set k _ = ns .u8 (filling p (k + 1)).tx ++ [Value.int .u16 0, Value.int .u32 0]
  rw [List.set_append_left _ _ (by rw [ns_length, hf]; exact hk)]
  congr 1
  unfold filling
  rw [← hs]
  unfold ns
  rw [List.map_set]
theorem pc_set2 (tx : List Int) (hl : tx.length = 32) (x y : Int) : ((pc ⟨tx, 0, 0⟩).toArray.setIfInBounds 32 (.int .u16 x)).setIfInBounds 33 (.int .u32 y) = (pc ⟨tx, x, y⟩).toArray := by
  apply Array.ext'
  unfold pc
  rw [Array.toList_setIfInBounds, Array.toList_setIfInBounds]
  show ((ns .u8 tx ++ [Value.int .u16 0, Value.int .u32 0]).set 32 (.int .u16 x)).set 33 (.int .u32 y) = ns .u8 tx ++ [Value.int .u16 x, Value.int .u32 y]
  rw [List.set_append_right _ _ (by rw [ns_length, hl]; exact Nat.le_refl _), List.set_append_right _ _ (by rw [ns_length, hl]; decide), ns_length, hl]
  rfl
theorem rowIs.set {w : World} {b n : Nat} (h : rowIs w b n) (p : Addr) (v : Value) (hne : b ≠ p.block) : rowIs (w.setCell p v) b n := by
  obtain ⟨old, t, hg, hs⟩ := h
  exact ⟨old, t, (Below.heap_setCell _ _ _ _ hne).trans hg, hs⟩
theorem rd_set {w : World} {n : Nat} {xs : List Int} {g : Nat} (h : RdN w .u8 (some ⟨g, 0, none⟩) n xs) (p : Addr) (v : Value) (hne : g ≠ p.block) : RdN (w.setCell p v) .u8 (some ⟨g, 0, none⟩) n xs := by
  refine Rd.keep h (by simp) fun k hk ad he hb => Below.heap_setCell _ _ _ _ ?_
  injection he with he
  subst he
  rw [hb]
  exact hne
theorem row_cells {w : World} {g : Nat} {cs : Array Value} {t : TypeId} (h : w.heap[g]? = some (.cells cs t (0, 0))) (i : Nat) : w.cell? ⟨g, i, none⟩ = cs[i]? ∧ w.frozen? ⟨g, i, none⟩ = false :=
  ⟨cell_of_row w g i cs t (0, 0) h, frozen_of_row w g i _ t h⟩

set_option maxRecDepth 10000 in
set_option maxHeartbeats 1000000 in
theorem rgetPoint_any (A : Option Addr) (n c : Nat) (b : List Int) (at_ : Int) (w : World) (hb : Arg w A n c b) (ha : -9223372036854775808 ≤ at_ ∧ at_ ≤ 9223372036854775807) :
    Calls Try.prog 21 #[.slice A n c, .int .i64 at_] w fun e w' => e = .returned (.tuple #[.agg (pc (getPF b at_).1).toArray, .int .i64 (getPF b at_).2.1, .int .i64 (getPF b at_).2.2]) ∧ Below w.heap.size w w' := by
  obtain ⟨p, q, hpq⟩ : ∃ p q, partF b at_ 38 = (p, q) := ⟨_, _, rfl⟩
  have hlen := hb.rd.len
  have hn := hb.len
  by_cases hq : q = 0
  · subst hq
    rw [getPF_ok hpq]
    obtain ⟨h1, h2, h3, h4⟩ := partF_ok (b := b) (at_ := at_) (n := 38) (by rw [hpq])
    have hpl : p.length = 38 := by have := partF_length (b := b) (at_ := at_) (n := 38) (by rw [hpq]); rw [hpq] at this; simp only at this; omega
    have hpB : IsB p := by have := partF_isB hb.isB at_ 38; rw [hpq] at this; exact this
    have hok := ptF_ok hpB hpl
    obtain ⟨x, ex, hx⟩ : ∃ x e, getF p 32 2 = (x, e) := ⟨_, _, rfl⟩
    obtain ⟨y, ey, hy⟩ : ∃ x e, getF p 34 4 = (x, e) := ⟨_, _, rfl⟩
    have hpt : ptF p = ⟨p.take 32, x, y⟩ := by unfold ptF; rw [hx, hy]
    rw [hpt] at hok ⊢
    have hxb := hok.n
    have hyb := hok.h
    have hokA := pc_ok hok
    have i1 : at_ + 38 ≤ 9223372036854775807 := by omega
    have PP := Lib.hid (And.intro hpq (And.intro hpl (And.intro hpB (And.intro hx hy))))
    have htl : (p.take 32).length = 32 := by rw [List.length_take]; omega
    have TL := Lib.hid (And.intro htl hok)
    clear hpq h4 hx hy hpt hok hpB hpl hlen htl
    simp only at hxb hyb
    go_enter Try.func21, Try.ntmps21
    go_wp2_with (fail)
    refine (rpart_is (hb.below ((Below.refl w.heap.size w).alloc (Nat.le_refl _) _)) ha (by omega) PP.out.1).mono ?_
    rintro e w1 ⟨A1, c1, rfl, ho1, hb1⟩
    have hri : rowIs w1 w.heap.size 34 := (rowIs_of (heap_alloc_new w _) rfl).below hb1
    have hbl : Below w.heap.size w w1 := ((Below.refl w.heap.size w).alloc (Nat.le_refl _) _).trans (hb1.mono (by simp))
    rw [PP.out.2.1] at ho1 ⊢
    obtain ⟨g, rfl⟩ := own_at ho1 (by omega)
    have hgl := (OwnN.lt ho1 g (by simp [blk])).2
    have hc1 := (Own.len_cap ho1).1
    have hct := (Own.len_cap ho1).2
    have hz := hbl.size
    have hrl := hri.lt
    have hnew : (w1.alloc (.cells (pc (filling p 0)).toArray 27)).heap[w1.heap.size]? = some (.cells (pc (filling p 0)).toArray 27 (0, 0)) := heap_alloc_new w1 _
    have hri1 := hri.below ((Below.refl w1.heap.size w1).alloc (Nat.le_refl _) (.cells (pc (filling p 0)).toArray 27))
    have hrd1 := (OwnN.alloc ho1 (.cells (pc (filling p 0)).toArray 27)).rd
    have hbl1 := belA hbl (.cells (pc (filling p 0)).toArray 27) (Nat.le_refl _)
    have H1 := Lib.hid (And.intro hnew (And.intro hri1 (And.intro hrd1 hbl1)))
    clear ho1 hb1 hri hbl hnew hri1 hrd1 hbl1
    go_wp2_with (fail)
    go_loopw [10] (fun i wr => ∃ k : Nat, k ≤ 32 ∧ i = .int .i64 k ∧ wr.heap[w1.heap.size]? = some (.cells (pc (filling p k)).toArray 27 (0, 0)) ∧ rowIs wr w.heap.size 34 ∧ RdN wr .u8 (some ⟨g, 0, none⟩) 38 p ∧ Below w.heap.size w wr) (fun i _ => 32 - (intOf i).toNat)
    case atStart => exact ⟨0, by omega, rfl, H1.out⟩
    case round =>
      clear H1
      obtain ⟨k, hk, rfl, hrow, hri, hrd, hbl⟩ := hrel
      by_cases hlt : k < 32
      · obtain ⟨ad, had, _, hca⟩ := hrd.at_ (show k < 38 by omega)
        injection had with had
        subst had
        rw [add_new] at hca
        have hfl := filling_len p k PP.out.2.1 hk
        have hc9 : wr.cell? ⟨w1.heap.size, k, none⟩ = some (.int .u8 ((filling p k).tx.getD k 0)) := by
          rw [(row_cells hrow k).1]
          have : (pc (filling p k))[k]? = some (.int .u8 ((filling p k).tx.getD k 0)) := by
            unfold pc
            rw [List.getElem?_append_left (by rw [ns_length, hfl]; exact hlt)]
            exact ns_get _ _ _ (by rw [hfl]; exact hlt)
          simpa using this
        have hf9 := (row_cells hrow k).2
        have hrow2 := heap_setCell_same _ _ k _ _ (.int .u8 (p.getD k 0)) hrow
        rw [filling_set p k PP.out.2.1 hlt] at hrow2
        have HH := Lib.hid (And.intro hrow2 (And.intro (hri.set ⟨w1.heap.size, k, none⟩ (.int .u8 (p.getD k 0)) (by show w.heap.size ≠ w1.heap.size; omega)) (And.intro (rd_set hrd ⟨w1.heap.size, k, none⟩ (.int .u8 (p.getD k 0)) (by show g ≠ w1.heap.size; omega)) (hbl.setCell (p := ⟨w1.heap.size, k, none⟩) (by show w.heap.size ≤ w1.heap.size; exact hz) (.int .u8 (p.getD k 0))))))
        have d0 : decide ((k : Int) < 32) = true := decide_eq_true (by omega)
        clear hfl hrow hri hrd hbl hrow2
        generalize p.getD k 0 = z at *
        generalize (filling p k).tx.getD k 0 = z0 at *
        go_wp2_with (fail)
        go_roundw
        case rel => exact ⟨k + 1, by omega, by go_num, HH.out⟩
        case measure => simp [intOf]; omega
      · obtain rfl : k = 32 := by omega
        have hf : filling p 32 = ⟨p.take 32, 0, 0⟩ := by unfold filling; simp
        rw [hf] at hrow
        have ha1 : Arg wr (some ⟨g, 0, none⟩) 38 c1 p := ⟨hrd, PP.out.2.2.1, hc1, hct, by omega⟩
        have d0 : decide (((32 : Nat) : Int) < 32) = false := by decide
        have hlt1 := (Array.getElem?_eq_some_iff.1 hrow).1
        have HR := Lib.hid hrow
        clear hrow hf hrd
        go_wp2_with (fail)
        refine (rget_is ha1 (by omega) (by omega) PP.out.2.2.2.1).mono ?_
        rintro e w2 ⟨rfl, hb2⟩
        have hri := hri.below hb2
        have ha2 := ha1.below hb2
        have hbl := bThen hbl hb2
        have HR2 := Lib.hid ((hb2.block w1.heap.size hlt1).trans HR.out)
        have hlt2 := (Array.getElem?_eq_some_iff.1 HR2.out).1
        clear hb2 ha1 HR
        go_wp2_with (fail)
        refine (rget_is ha2 (by omega) (by omega) PP.out.2.2.2.2).mono ?_
        rintro e w3 ⟨rfl, hb3⟩
        have hri := hri.below hb3
        have hbl := bThen hbl hb3
        have hrow3 := (hb3.block w1.heap.size hlt2).trans HR2.out
        have hz3 := hbl.size
        obtain ⟨kn, fn⟩ := row_cells hrow3 32
        obtain ⟨kh, fh⟩ := row_cells hrow3 33
        have z0 : Pt.ok ⟨p.take 32, 0, 0⟩ := ⟨TL.out.1, TL.out.2.isB, ⟨Int.le_refl 0, (by decide : (0 : Int) ≤ 65535)⟩, ⟨Int.le_refl 0, (by decide : (0 : Int) ≤ 4294967295)⟩⟩
        rw [show (pc ⟨p.take 32, 0, 0⟩).toArray[32]? = some (.int .u16 0) from by simpa using pc_n z0] at kn
        rw [show (pc ⟨p.take 32, 0, 0⟩).toArray[33]? = some (.int .u32 0) from by simpa using pc_h z0] at kh
        have hrow4 := heap_setCell_same _ _ 33 _ _ (.int .u32 y) (heap_setCell_same _ _ 32 _ _ (.int .u16 x) hrow3)
        rw [pc_set2 _ TL.out.1] at hrow4
        have hrng : ((w3.setCell ⟨w1.heap.size, 32, none⟩ (.int .u16 x)).setCell ⟨w1.heap.size, 33, none⟩ (.int .u32 y)).rangeAt w1.heap.size 0 (pc ⟨p.take 32, x, y⟩) := by
          intro j v hv
          rw [Nat.zero_add, (row_cells hrow4 j).1]
          simpa using hv
        have hh := hasAt_of hrng (pc_length TL.out.2)
        have hc := cellsAt_of hrng (pc_length TL.out.2)
        have hri4 := (hri.set ⟨w1.heap.size, 32, none⟩ (.int .u16 x) (by show w.heap.size ≠ w1.heap.size; omega)).set ⟨w1.heap.size, 33, none⟩ (.int .u32 y) (by show w.heap.size ≠ w1.heap.size; omega)
        obtain ⟨t, hrow5⟩ := row_set hri4 (pc ⟨p.take 32, x, y⟩).toArray
        have RW := Lib.hid hrow5
        have BL := Lib.hid ((hbl.setCell (p := ⟨w1.heap.size, 32, none⟩) (by show w.heap.size ≤ w1.heap.size; exact hz) (.int .u16 x)).setCell (p := ⟨w1.heap.size, 33, none⟩) (by show w.heap.size ≤ w1.heap.size; exact hz) (.int .u32 y))
        clear hb3 ha2 hrow3 hrow4 hrow5 hbl hrng hri z0 HR2
        go_wp2_with (fail)
        refine bodyPost_ret (res_cell3 Try.results21 rfl (rd_point _ _ _ _ RW.out hokA.1)) rfl ?_
        exact ⟨rfl, below_setRow BL.out (Nat.le_refl _) (by simp; exact hz3) _⟩
  · rw [getPF_err hpq hq]
    have hp0 : p = [] := by have := partF_err (b := b) (at_ := at_) (n := 38) (by rw [hpq]; exact hq); rw [hpq] at this; exact this
    subst hp0
    have hokA := pc_ok zeroPt_ok
    have PP := Lib.hid hpq
    have d1 : (q != 0) = true := by rw [bne_iff_ne]; exact hq
    clear hpq hq hlen
    go_enter Try.func21, Try.ntmps21
    go_wp2_with (fail)
    refine (rpart_is (hb.below ((Below.refl w.heap.size w).alloc (Nat.le_refl _) _)) ha (by omega) PP.out).mono ?_
    rintro e w1 ⟨A1, c1, rfl, ho1, hb1⟩
    have hri : rowIs w1 w.heap.size 34 := (rowIs_of (heap_alloc_new w _) rfl).below hb1
    have hbl : Below w.heap.size w w1 := ((Below.refl w.heap.size w).alloc (Nat.le_refl _) _).trans (hb1.mono (by simp))
    have hz := hbl.size
    obtain ⟨t, hrow⟩ := row_set hri (pc zeroPt).toArray
    have RW := Lib.hid hrow
    have BL := Lib.hid hbl
    clear ho1 hb1 hrow hbl
    go_wp2_with (fail)
    refine bodyPost_ret (res_cell3 Try.results21 rfl (rd_point _ _ _ _ RW.out hokA.1)) rfl ?_
    exact ⟨rfl, below_setRow BL.out (Nat.le_refl _) hz _⟩
end Go.Proofs.Ytejablcdpakgoaa
