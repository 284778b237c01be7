/- Joined texts: UnM, UnN. -/
import Derived.Test.YtofclanljhfkiaaM25
import Derived.Test.YtofclanljhfkiaaM26
import Derived.Test.YtofclanljhfkiaaM23
/- The undos that the document tells: works of law 25. -/
namespace Go.Proofs.Ytofclanljhfkiaa
open Go.RowKit Go.Proofs En Co
set_option linter.unusedVariables false
set_option linter.unusedSimpArgs false
set_option maxRecDepth 20000
attribute [local go_sem ↓] ld_point_eq ld_coin_eq ld_hash_eq st_point_eq st_coin_eq bd_point_eq bd_coin_eq eq_point_eq ne_point_eq al_coin_eq al_point_eq bs_coin_eq bs_point_eq
attribute [local go_sem] ld_point_run ld_coin_run ld_hash_run st_point_run st_coin_run bd_point_zero bd_coin_zero bd_point_of bd_coin_of hash_at rowIs_34 rowIs_37 rowIs_both hasAt_both cellsAt_both eq_point_run ne_point_run guard_pt al_coin_run al_point_run al_coin_row al_point_row nil_bytes nil_coins bs_coin_run bs_point_run bd_coin_v

theorem FirmP.nil (w : World) (base : Nat) : FirmP w base ⟨none, 0, 0, []⟩ := OwnP.firm (x := ⟨none, 0, 0, []⟩) (OwnP.nil w base)
theorem firmQ_one {w : World} {base : Nat} {p : Pt} (hp : p.ok) : FirmQ (w.alloc (.cells (pc p).toArray 54)) base (some ⟨w.heap.size, 0, none⟩) 1 1 [p] :=
  ⟨one_rowQ w p hp, fun y hy => by rcases List.mem_singleton.1 hy with rfl; exact hp, rfl, Nat.le_refl _, by unfold maxLen; omega, fun k hk => by
    have e : w.heap.size = k := by simpa [blk] using hk
    subst e
    exact ⟨by simp, .inr ⟨_, _, heap_alloc_new w _, by decide, by decide, by decide⟩⟩⟩
/-- what stands while undos are tried -/
structure W25 (w wr : World) (g : Nat) (P : Option Addr) (ps : List (List Cn)) (D : Option Addr) (d : Nat) (b : Nat) (A : Option Addr) (d1 : Nat) (A2 : Option Addr) (d2 : Nat) : Prop where
  bel : Below w.heap.size w wr
  tb : Tb wr w.heap.size g P ps
  own : OwnB wr w.heap.size D 2 d [0, 0]
  box : wr.heap[b]? = some (.cells #[.slice A 0 d1, .slice A2 1 d2] 25 (0, 0))
  sp : OwnP wr w.heap.size A 0 d1 []
  md : OwnQ wr w.heap.size A2 1 d2 [zeroPt]
section
variable {w wr w2 : World} {g b d d1 d2 : Nat} {P P' D A A2 : Option Addr} {ps qs : List (List Cn)}
theorem W25.below (h : W25 w wr g P ps D d b A d1 A2 d2) (hb : Below wr.heap.size wr w2) : W25 w w2 g P ps D d b A d1 A2 d2 :=
  ⟨bThen h.bel hb, h.tb.below hb, OwnN.below h.own hb, kept h.box hb, h.sp.below hb, h.md.below hb⟩
theorem W25.only (h : W25 w wr g P ps D d b A d1 A2 d2) (ho : Only wr w2 g P) (ht : Tb w2 w.heap.size g P' qs) : W25 w w2 g P' qs D d b A d1 A2 d2 :=
  ⟨h.bel.trans (h.tb.frame ho), ht, Own.only h.own ho h.tb.kinds (by decide) (by decide), ho.boxU h.tb.kinds h.box (by decide) (by decide), h.sp.only ho h.tb.kinds, ⟨Own.only h.md.row ho h.tb.kinds (by decide) (by decide), h.md.ok, h.md.len⟩⟩
end
theorem w25_put : putUF [] [] = ([0, 0], 0) := by decide
theorem w25_read : readUF [0] = ([], [], 4) := by decide
theorem w25_do1 : doM [] [] [cnV 1] = ([[cnV 1]], [], [zeroPt], 0) := by decide
theorem w25_back1 : backM [[cnV 1]] [] [zeroPt] = ([], 0) := by decide
theorem w25_back2 : backM [] [] [zeroPt] = ([], 6) := by decide
theorem w25_do2 : doM [] [zeroPt] [] = ([], [], [], 6) := by decide
theorem cns_nil_of {hs : List Cm} (h : cns hs = []) : hs = [] := by
  cases hs with
  | nil => rfl
  | cons a r => cases h

set_option maxRecDepth 20000 in
set_option maxHeartbeats 4000000 in
theorem works25_any (w : World) :
    Calls Try.prog 17 #[] w fun e w' => e = .returned (.bool true) ∧ Below w.heap.size w w' := by
  have PU := putU_any (w := w) (OwnP.nil w w.heap.size).arg (FirmQ.nil w 0)
  rw [show cns [] = [] from rfl, w25_put] at PU
  have PU := Lib.hid PU
  go_enter Try.func17, Try.ntmps17
  go_wp2_with (fail)
  refine PU.out.mono ?_
  rintro e w1 ⟨D, d, rfl, ho1, hb1⟩
  have l2 : Below w1.heap.size w1 (w1.alloc (.cells (ns .u8 [0]).toArray 5)) := (Below.refl _ _).alloc (Nat.le_refl _) _
  have RD := readU_any (arg_lit w1 [0] 1 (by omega) rfl (isB_dec (by decide)))
  rw [w25_read] at RD
  have RD := Lib.hid RD
  have S1 := Lib.hid (And.intro (OwnN.below ho1 l2) (bThen hb1 l2))
  clear ho1 hb1 l2
  go_wp2_with (fail)
  refine RD.out.mono ?_
  rintro e w2 ⟨B1, m1, e1, hs1, B2, m2, e2, rfl, _, _, _, hb2⟩
  have l3 : Below w2.heap.size w2 (w2.alloc (.cells #[.slice B1 m1 e1, .slice B2 m2 e2] 25)) := (Below.refl _ _).alloc (Nat.le_refl _) _
  have S2 := Lib.hid (And.intro (OwnN.below S1.out.1 (bThen hb2 l3)) (bThen S1.out.2 (bThen hb2 l3)))
  clear hb2 l3
  go_wp2_with (fail)
  refine (new_m _).mono ?_
  rintro e w3 ⟨rfl, hT3, hb3⟩
  have hg := S2.out.2.size
  have o3 := OwnN.below S2.out.1 hb3
  have bl3 := bThen S2.out.2 hb3
  generalize (w2.alloc (.cells #[.slice B1 m1 e1, .slice B2 m2 e2] 25)).heap.size = g at *
  have hokv := cc_ok (m := ⟨cnV 1, none, 0⟩) zeroPt_ok
  have l4 : Below w3.heap.size w3 (w3.alloc (.cells (cc ⟨cnV 1, none, 0⟩).toArray 57)) := (Below.refl _ _).alloc (Nat.le_refl _) _
  have t4 := (hT3.mono hg).below l4
  have DO := do_m t4 (FirmQ.nil _ _) (firm_one (base := w.heap.size) (cnV_ok w3 1 (by omega)) (fun h0 => absurd h0 (by decide)))
  rw [show cns [(⟨cnV 1, none, 0⟩ : Cm)] = [cnV 1] from rfl, w25_do1] at DO
  have DO := Lib.hid DO
  have S4 := Lib.hid (And.intro t4 (And.intro (OwnN.below o3 l4) (bThen bl3 l4)))
  clear t4 l4 o3 bl3 hT3 hb3 hg
  go_wp2_with (fail)
  refine DO.out.mono ?_
  rintro e w5 ⟨A, n, d1, hs, A2, n2, d2, rfl, ho5, hc5, hq5, P5, hT5, hk5, hn5⟩
  obtain rfl := cns_nil_of hc5
  obtain rfl : n = 0 := ho5.len.symm
  obtain rfl : n2 = 1 := hq5.len.symm
  have l6 : Below w5.heap.size w5 (w5.alloc (.cells #[.slice A 0 d1, .slice A2 1 d2] 25)) := (Below.refl _ _).alloc (Nat.le_refl _) _
  have s6 : W25 w (w5.alloc (.cells #[.slice A 0 d1, .slice A2 1 d2] 25)) g P5 [[cnV 1]] D d w5.heap.size A d1 A2 d2 :=
    ⟨bThen (S4.out.2.2.trans (S4.out.1.frame hn5)) l6, hT5.below l6, OwnN.below (Own.only S4.out.2.1 hn5 S4.out.1.kinds (by decide) (by decide)) l6, heap_alloc_new w5 _, ho5.below l6, hq5.below l6⟩
  have BK := back_m s6.tb (OwnP.firm (x := ⟨A, 0, d1, []⟩) s6.sp) (s6.md.firm _)
  rw [show cns [] = [] from rfl, w25_back1] at BK
  have BK := Lib.hid BK
  have x0 := (row_cells s6.box 0).1
  have x1 := (row_cells s6.box 1).1
  have S6 := Lib.hid s6
  clear s6 l6 ho5 hc5 hq5 hT5 hk5 hn5
  go_wp2_with (fail)
  refine BK.out.mono ?_
  rintro e w7 ⟨rfl, P7, hT7, hk7, hn7⟩
  have s7 := S6.out.only hn7 hT7
  have BK2 := back_m s7.tb (OwnP.firm (x := ⟨A, 0, d1, []⟩) s7.sp) (s7.md.firm _)
  rw [show cns [] = [] from rfl, w25_back2] at BK2
  have BK2 := Lib.hid BK2
  have y0 := (row_cells s7.box 0).1
  have y1 := (row_cells s7.box 1).1
  have S7 := Lib.hid s7
  clear s7 hT7 hk7 hn7 x0 x1
  go_wp2_with (fail)
  refine BK2.out.mono ?_
  rintro e w8 ⟨rfl, P8, hT8, hk8, hn8⟩
  have s8 := S7.out.only hn8 hT8
  have hokz := pc_ok zeroPt_ok
  have l9 : Below w8.heap.size w8 (w8.alloc (.cells (pc zeroPt).toArray 54)) := (Below.refl _ _).alloc (Nat.le_refl _) _
  have s9 := s8.below l9
  have DO2 := do_m s9.tb (firmQ_one (w := w8) (base := w.heap.size) zeroPt_ok) (FirmP.nil _ _)
  rw [show cns [] = [] from rfl, w25_do2] at DO2
  have DO2 := Lib.hid DO2
  have S9 := Lib.hid s9
  clear s8 s9 l9 hT8 hk8 hn8 y0 y1
  go_wp2_with (fail)
  refine DO2.out.mono ?_
  rintro e w10 ⟨A3, n3, d3, hs3, A4, n4, d4, rfl, _, _, _, P10, hT10, hk10, hn10⟩
  have s10 := S9.out.only hn10 hT10
  have l11 : Below w10.heap.size w10 ((w10.alloc (.cells #[.slice A3 n3 d3, .slice A4 n4 d4] 25)).alloc (.cells (ns .u8 [0, 0]).toArray 5)) := ((Below.refl _ _).alloc (Nat.le_refl _) _).alloc (by simp) _
  have s11 := s10.below l11
  have SM := Lib.hid (same_is (n := 2) (c := d) (m := 2) (d := 2) (r := true) s11.own.rd (rd_lit2 w10 _ [0, 0] 2 (by omega) rfl) (by omega) (by decide))
  have S11 := Lib.hid s11
  clear s10 s11 l11 hT10 hk10 hn10
  go_wp2_with (fail)
  refine SM.out.mono ?_
  rintro e w12 ⟨rfl, hb12⟩
  have s12 := S11.out.below hb12
  have z0 := (row_cells s12.box 0).1
  have z1 := (row_cells s12.box 1).1
  have B := Lib.hid s12.bel
  clear s12 hb12
  go_wp2_with (fail)
  go_ret
  exact ⟨rfl, B.out⟩
end Go.Proofs.Ytofclanljhfkiaa
/- Points in a row, coins in a row, an undo: opened, out of any table's reach. -/
namespace Go.Proofs.Ytofclanljhfkiaa
open Go.RowKit Go.Proofs En Co Go.ChangeShapes Go.WideShapes Go.Joins
set_option linter.unusedVariables false
set_option linter.unusedSimpArgs false
set_option maxRecDepth 20000

theorem bytes_point : Try.prog.bytesOf 54 = 40 := by kernel_rfl
section
variable {H : Type} {enc : TypeId × Value → H} {W : World} {base : Nat} {v : Value} {d : DataW H} {ps : List MemPlace}
theorem shape_lt {b : Nat} {x : TypeId × Nat} (h : W.shape? b = some x) : b < W.heap.size := by
  unfold World.shape? at h
  by_cases hb : b < W.heap.size
  · exact hb
  · rw [Array.getElem?_eq_none (by omega)] at h
    cases h
theorem slice_lt {t e : TypeId} (hu : Try.prog.underlying t = some (.slice e)) {A : Option Addr} {n c : Nat} (h : Cell.okWide Try.prog W .any base t (.slice A n c)) : ∀ k, blk A = some k → k < W.heap.size := by
  cases A with
  | none => intro k hk; cases hk
  | some a =>
    intro k hk
    have e : a.block = k := by simpa [blk] using hk
    subst e
    simp only [Cell.okWide, hu, Cell.ok] at h
    obtain ⟨_, _, _, _, row, cells, h2, _⟩ := h
    exact shape_lt h2
theorem firm_new {A : Option Addr} (h : ∀ k, blk A = some k → k < W.heap.size) : Firm W W.heap.size A := fun k hk => ⟨h k hk, .inl (h k hk)⟩
theorem firmO_new {A : Option Addr} (h : ∀ k, blk A = some k → k < W.heap.size) : FirmO W W.heap.size A := (firm_new h).o
theorem lock_new {m : Cm} (h : m.ok W) : FirmL W W.heap.size m := fun h0 k hk => by
  obtain ⟨ad, he, hlt, _⟩ := h.arg.rd.2 h0
  rw [he] at hk
  have e : ad.block = k := by simpa [blk] using hk
  exact ⟨by omega, .inl (by omega)⟩
theorem open_points {fuel : Nat} {y : DataW H × List MemPlace} {B : Option Addr} {n c : Nat} (hB : ∀ k, blk B = some k → k < W.heap.size) (h : DataW.trod enc Try.prog W 0 (fun _ => true) true fuel 23 [.slice B n c] = some y) (hs : Small Try.prog 23 y.1) :
    ∃ xs, FirmQ W W.heap.size B n c xs ∧ c ≤ 3518437208781 := by
  rcases open_elems Try.underlying23 h hs with he | ⟨a, len, cap, he, hl, hm, hr, hi⟩
  · injection he with e1 e2 e3
    subst e1 e2 e3
    exact ⟨[], FirmQ.nil _ _, by omega⟩
  · injection he with e1 e2 e3
    subst e1 e2 e3
    rw [bytes_point] at hr
    unfold reachBytes at hr
    rw [cells_point] at hi
    obtain ⟨xs, h1, h2, h3, _⟩ := rows_of pc Pt.ok 34 (W := W) (a := a) (n := n) (by omega) (fun i hlt => by
      obtain ⟨cs', y, q, h1, h2, h3, h4⟩ := hi i hlt
      obtain ⟨p, hp, rfl⟩ := open_pt h1 h3 h4
      exact ⟨p, h2, h1, hp⟩)
    exact ⟨xs, ⟨h2, h3, h1, hl, hm, firmO_new hB⟩, by omega⟩
theorem open_coinsF {fuel : Nat} {y : DataW H × List MemPlace} {B : Option Addr} {n c : Nat} (hB : ∀ k, blk B = some k → k < W.heap.size) (h : DataW.trod enc Try.prog W 0 (fun _ => true) true fuel 22 [.slice B n c] = some y) (hs : Small Try.prog 22 y.1) :
    ∃ hs, FirmP W W.heap.size ⟨B, n, c, hs⟩ ∧ c ≤ 1759218604392 := by
  obtain ⟨B', n', c', hs, e, h1, h2⟩ := open_coins h hs
  injection e with e1 e2 e3
  subst e1 e2 e3
  exact ⟨hs, ⟨h1, firm_new hB, fun m hm => lock_new (h1.ok m hm)⟩, h2⟩
theorem arg_points (hval : Value.okWide Try.prog W .any base 23 v) (h : DataW.Trod enc Try.prog W 0 (fun _ => true) true 23 v d ps) (hs : Small Try.prog 23 d) :
    ∃ B n c xs, v = .slice B n c ∧ (FirmQ W W.heap.size B n c xs ∧ c ≤ 3518437208781) := by
  obtain ⟨A, n, c, rfl⟩ := okWide_slice Try.underlying23 hval
  obtain ⟨fuel, hf⟩ := h
  have hv : Cell.okWide Try.prog W .any base 23 (.slice A n c) := by simpa only [Value.okWide, Try.underlying23] using hval
  obtain ⟨xs, h1, h2⟩ := open_points (slice_lt Try.underlying23 hv) (by simpa [Value.cells] using hf) hs
  exact ⟨A, n, c, xs, rfl, h1, h2⟩
theorem arg_coinsF (hval : Value.okWide Try.prog W .any base 22 v) (h : DataW.Trod enc Try.prog W 0 (fun _ => true) true 22 v d ps) (hs : Small Try.prog 22 d) :
    ∃ B n c hs, v = .slice B n c ∧ (FirmP W W.heap.size ⟨B, n, c, hs⟩ ∧ c ≤ 1759218604392) := by
  obtain ⟨A, n, c, rfl⟩ := okWide_slice Try.underlying22 hval
  obtain ⟨fuel, hf⟩ := h
  have hv : Cell.okWide Try.prog W .any base 22 (.slice A n c) := by simpa only [Value.okWide, Try.underlying22] using hval
  obtain ⟨xs, h1, h2⟩ := open_coinsF (slice_lt Try.underlying22 hv) (by simpa [Value.cells] using hf) hs
  exact ⟨A, n, c, xs, rfl, h1, h2⟩
theorem types_undo : Try.prog.cellTypes Try.prog.depth 25 = some [22, 23] := by kernel_rfl
theorem cells_coins : Try.prog.cellsOf 22 = 1 := by kernel_rfl
theorem cells_points : Try.prog.cellsOf 23 = 1 := by kernel_rfl
theorem cells_undo : Try.prog.cellsOf 25 = 2 := by kernel_rfl
theorem arg_undo (hval : Value.okWide Try.prog W .any base 25 v) (h : DataW.Trod enc Try.prog W 0 (fun _ => true) true 25 v d ps) (hs : Small Try.prog 25 d) :
    ∃ A n c hs B n2 c2 xs, v = .agg #[.slice A n c, .slice B n2 c2] ∧ (FirmP W W.heap.size ⟨A, n, c, hs⟩ ∧ FirmQ W W.heap.size B n2 c2 xs ∧ c ≤ 1759218604392 ∧ c2 ≤ 3518437208781) := by
  have hv : ∃ cs, v = .agg cs ∧ cs.size = Try.prog.cellsOf 25 ∧ Row.okWide Try.prog W .any base 25 cs := by simpa only [Value.okWide, Try.underlying25] using hval
  obtain ⟨cs, rfl, hl, ts, hts, _, hcell⟩ := hv
  rw [cells_undo] at hl
  rw [types_undo] at hts
  obtain rfl := Option.some.inj hts
  obtain ⟨a0, ha0⟩ : ∃ a0, cs[0]? = some a0 := ⟨cs[0], Array.getElem?_eq_getElem (by omega)⟩
  obtain ⟨a1, ha1⟩ : ∃ a1, cs[1]? = some a1 := ⟨cs[1], Array.getElem?_eq_getElem (by omega)⟩
  obtain rfl : cs = #[a0, a1] := by
    obtain ⟨l⟩ := cs
    rcases l with _ | ⟨x, _ | ⟨y, _ | ⟨z, r⟩⟩⟩ <;> simp_all
  obtain ⟨u0, hu0, k0⟩ := hcell 0 a0 ha0
  obtain ⟨u1, hu1, k1⟩ := hcell 1 a1 ha1
  have e0 : u0 = 22 := by simpa using hu0.symm
  have e1 : u1 = 23 := by simpa using hu1.symm
  subst e0 e1
  obtain ⟨fuel, hf⟩ := h
  have hf : DataW.trod enc Try.prog W 0 (fun _ => true) true fuel 25 [a0, a1] = some (d, ps) := by simpa [Value.cells] using hf
  obtain ⟨y0, n0, h0, s0⟩ := open_field Try.underlying25 hf hs (i := 0) rfl
  obtain ⟨y1, n1, h1, s1⟩ := open_field Try.underlying25 hf hs (i := 1) rfl
  replace h0 : DataW.trod enc Try.prog W 0 (fun _ => true) true n0 22 (([a0, a1].drop 0).take (Try.prog.cellsOf 22)) = some y0 := h0
  replace h1 : DataW.trod enc Try.prog W 0 (fun _ => true) true n1 23 (([a0, a1].drop 1).take (Try.prog.cellsOf 23)) = some y1 := h1
  replace s0 : Small Try.prog 22 y0.1 := s0
  replace s1 : Small Try.prog 23 y1.1 := s1
  rw [cells_coins] at h0
  rw [cells_points] at h1
  have h0 : DataW.trod enc Try.prog W 0 (fun _ => true) true n0 22 [a0] = some y0 := h0
  have h1 : DataW.trod enc Try.prog W 0 (fun _ => true) true n1 23 [a1] = some y1 := h1
  have v0 : Value.okWide Try.prog W .any base 22 a0 := by simpa only [Value.okWide, Try.underlying22] using k0
  have v1 : Value.okWide Try.prog W .any base 23 a1 := by simpa only [Value.okWide, Try.underlying23] using k1
  obtain ⟨A, n, c, rfl⟩ := okWide_slice Try.underlying22 v0
  obtain ⟨B, n2, c2, rfl⟩ := okWide_slice Try.underlying23 v1
  obtain ⟨hs, p1, p2⟩ := open_coinsF (slice_lt Try.underlying22 k0) h0 s0
  obtain ⟨xs, r1, r2⟩ := open_points (slice_lt Try.underlying23 k1) h1 s1
  exact ⟨A, n, c, hs, B, n2, c2, xs, rfl, p1, r1, p2, r2⟩
end
end Go.Proofs.Ytofclanljhfkiaa
