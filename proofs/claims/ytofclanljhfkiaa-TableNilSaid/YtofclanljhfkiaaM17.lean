/- Joined texts: TbG. -/
import Derived.Test.YtofclanljhfkiaaM16
/- TableNil: of none, and of a zero one, all is refused, or nothing. -/
namespace Go.Proofs.Ytofclanljhfkiaa
open Go.RowKit Go.Proofs En Co
set_option linter.unusedVariables false
set_option linter.unusedSimpArgs false
set_option maxRecDepth 20000
attribute [local go_sem ↓] ld_point_eq ld_coin_eq ld_hash_eq st_point_eq st_coin_eq bd_point_eq bd_coin_eq eq_point_eq ne_point_eq al_coin_eq al_point_eq bs_coin_eq
attribute [local go_sem] ld_point_run ld_coin_run ld_hash_run st_point_run st_coin_run bd_point_zero bd_coin_zero bd_point_of bd_coin_of hash_at rowIs_34 rowIs_37 rowIs_both hasAt_both cellsAt_both eq_point_run ne_point_run guard_pt al_coin_run al_point_run al_coin_row al_point_row nil_bytes nil_coins bs_coin_run

structure OffS (w wr : World) (pv : Value) (m : Cm) : Prop where
  bel : Below w.heap.size w wr
  off : Off wr pv
  box : wr.heap[w.heap.size]? = some (.cells (cc m).toArray 57 (0, 0))
theorem OffS.below {w wr w2 : World} {pv : Value} {m : Cm} (h : OffS w wr pv m) (hb : Below wr.heap.size wr w2) : OffS w w2 pv m := ⟨bThen h.bel hb, h.off.below hb, kept h.box hb⟩
theorem OffS.has {w wr : World} {pv : Value} {m : Cm} (h : OffS w wr pv m) (hp : m.c.p.ok) : (hasAt wr w.heap.size 0 37 ∧ cellsAt wr w.heap.size 0 37 = (cc m).toArray) ∧ (hasAt wr w.heap.size 0 34 ∧ cellsAt wr w.heap.size 0 34 = (pc m.c.p).toArray) := coin_has hp h.box

set_option maxRecDepth 20000 in
set_option maxHeartbeats 2000000 in
theorem tableNil_walk (m : Cm) (n : Int) (z : Bool) (w : World) (hm : m.ok w ∧ m.k ≤ 140737488351232) (hn : -9223372036854775808 ≤ n ∧ n ≤ 9223372036854775807) (_ : True) :
    Calls Try.prog 11 #[.agg (cc m).toArray, .int .i64 n, .bool z] w fun e w' => e = .returned (.bool true) ∧ Below w.heap.size w w' := by
  have hp := hm.1.c.p
  have hokz : okAgg (cc zm).toArray 37 := cc_ok (m := zm) zeroPt_ok
  have b1 : Below w.heap.size w (w.alloc (.cells (cc m).toArray 57)) := (Below.refl _ _).alloc (Nat.le_refl _) _
  have f1 : (w.alloc (.cells (cc m).toArray 57)).heap[w.heap.size]? = some (.cells (cc m).toArray 57 (0, 0)) := heap_alloc_new w _
  cases z with
  | false =>
    have s1 : OffS w (w.alloc (.cells (cc m).toArray 57)) (.pointer none) m := ⟨b1, .inl rfl, f1⟩
    obtain ⟨u1, v1⟩ := (s1.has hp).2
    have C1 := takeN_any m.c.p _ _ s1.off
    have S1 := Lib.hid s1
    clear s1 b1 f1
    go_enter Try.func11, Try.ntmps11
    go_wp2_with (fail)
    refine C1.mono ?_
    rintro e w2 ⟨rfl, hb2⟩
    have s2 := (S1.out.below hb2).below (slot_self w2 (.cells (cc zm).toArray 57) (cc zm).toArray)
    obtain ⟨u2, v2⟩ := (s2.has hp).2
    have C2 := getN_any m.c.p _ _ s2.off
    have S2 := Lib.hid s2
    clear s2 hb2 C1 u1 v1
    go_wp2_with (fail)
    refine C2.mono ?_
    rintro e w3 ⟨rfl, hb3⟩
    have s3 := (S2.out.below hb3).below (slot_self w3 (.cells (cc zm).toArray 57) (cc zm).toArray)
    have C3 := pageN_any n _ _ s3.off
    have S3 := Lib.hid s3
    clear s3 hb3 C2 u2 v2
    go_wp2_with (fail)
    refine C3.mono ?_
    rintro e w4 ⟨rfl, hb4⟩
    have s4 := S3.out.below hb4
    obtain ⟨u4, v4⟩ := (s4.has hp).1
    have C4 := putN_any m _ _ s4.off
    have S4 := Lib.hid s4
    clear s4 hb4 C3
    go_wp2_with (fail)
    refine C4.mono ?_
    rintro e w5 ⟨rfl, hb5⟩
    have s5 := S4.out.below hb5
    have C5 := lenN_any _ _ s5.off
    have S5 := Lib.hid s5
    clear s5 hb5 C4 u4 v4
    go_wp2_with (fail)
    refine C5.mono ?_
    rintro e w6 ⟨rfl, hb6⟩
    have s6 := S5.out.below hb6
    have C6 := bytesN_any _ _ s6.off
    have S6 := Lib.hid s6
    clear s6 hb6 C5
    go_wp2_with (fail)
    refine C6.mono ?_
    rintro e w7 ⟨rfl, hb7⟩
    have s7 := S6.out.below hb7
    have C7 := allN_any _ _ s7.off
    have S7 := Lib.hid s7
    clear s7 hb7 C6
    go_wp2_with (fail)
    refine C7.mono ?_
    rintro e w8 ⟨rfl, hb8⟩
    have s8 := S7.out.below hb8
    have C8 := sumN_any _ _ s8.off
    have S8 := Lib.hid s8
    clear s8 hb8 C7
    go_wp2_with (fail)
    refine C8.mono ?_
    rintro e w9 ⟨rfl, hb9⟩
    have s9 := S8.out.below hb9
    have C9 := copyN_any _ _ s9.off
    have S9 := Lib.hid s9
    clear s9 hb9 C8
    go_wp2_with (fail)
    refine C9.mono ?_
    rintro e w10 ⟨rfl, hb10⟩
    have s10 := S9.out.below hb10
    have S10 := Lib.hid s10
    clear s10 hb10
    go_wp2_with (fail)
    refine (works24_any w10).mono ?_
    rintro e w11 ⟨rfl, hb11⟩
    have B := Lib.hid (bThen S10.out.bel hb11)
    clear hb11
    go_wp2_with (fail)
    go_ret
    exact ⟨rfl, B.out⟩
  | true =>
    have b2 := belA b1 (.cells #[.bool false, .slice none 0 0, .int .i64 0] 29) (Nat.le_refl _)
    have s1 : OffS w ((w.alloc (.cells (cc m).toArray 57)).alloc (.cells #[.bool false, .slice none 0 0, .int .i64 0] 29)) (.pointer (some ⟨w.heap.size + 1, 0, none⟩)) m := by
      obtain ⟨h1, h2⟩ := two_box w (.cells (cc m).toArray 57) (.cells #[.bool false, .slice none 0 0, .int .i64 0] 29)
      exact ⟨b2, .inr ⟨_, rfl, h2⟩, h1⟩
    clear b2
    obtain ⟨u1, v1⟩ := (s1.has hp).2
    have C1 := takeN_any m.c.p _ _ s1.off
    have S1 := Lib.hid s1
    clear s1 b1 f1
    go_enter Try.func11, Try.ntmps11
    go_wp2_with (fail)
    refine C1.mono ?_
    rintro e w2 ⟨rfl, hb2⟩
    have s2 := (S1.out.below hb2).below (slot_self w2 (.cells (cc zm).toArray 57) (cc zm).toArray)
    obtain ⟨u2, v2⟩ := (s2.has hp).2
    have C2 := getN_any m.c.p _ _ s2.off
    have S2 := Lib.hid s2
    clear s2 hb2 C1 u1 v1
    go_wp2_with (fail)
    refine C2.mono ?_
    rintro e w3 ⟨rfl, hb3⟩
    have s3 := (S2.out.below hb3).below (slot_self w3 (.cells (cc zm).toArray 57) (cc zm).toArray)
    have C3 := pageN_any n _ _ s3.off
    have S3 := Lib.hid s3
    clear s3 hb3 C2 u2 v2
    go_wp2_with (fail)
    refine C3.mono ?_
    rintro e w4 ⟨rfl, hb4⟩
    have s4 := S3.out.below hb4
    obtain ⟨u4, v4⟩ := (s4.has hp).1
    have C4 := putN_any m _ _ s4.off
    have S4 := Lib.hid s4
    clear s4 hb4 C3
    go_wp2_with (fail)
    refine C4.mono ?_
    rintro e w5 ⟨rfl, hb5⟩
    have s5 := S4.out.below hb5
    have C5 := lenN_any _ _ s5.off
    have S5 := Lib.hid s5
    clear s5 hb5 C4 u4 v4
    go_wp2_with (fail)
    refine C5.mono ?_
    rintro e w6 ⟨rfl, hb6⟩
    have s6 := S5.out.below hb6
    have C6 := bytesN_any _ _ s6.off
    have S6 := Lib.hid s6
    clear s6 hb6 C5
    go_wp2_with (fail)
    refine C6.mono ?_
    rintro e w7 ⟨rfl, hb7⟩
    have s7 := S6.out.below hb7
    have C7 := allN_any _ _ s7.off
    have S7 := Lib.hid s7
    clear s7 hb7 C6
    go_wp2_with (fail)
    refine C7.mono ?_
    rintro e w8 ⟨rfl, hb8⟩
    have s8 := S7.out.below hb8
    have C8 := sumN_any _ _ s8.off
    have S8 := Lib.hid s8
    clear s8 hb8 C7
    go_wp2_with (fail)
    refine C8.mono ?_
    rintro e w9 ⟨rfl, hb9⟩
    have s9 := S8.out.below hb9
    have C9 := copyN_any _ _ s9.off
    have S9 := Lib.hid s9
    clear s9 hb9 C8
    go_wp2_with (fail)
    refine C9.mono ?_
    rintro e w10 ⟨rfl, hb10⟩
    have s10 := S9.out.below hb10
    have S10 := Lib.hid s10
    clear s10 hb10
    go_wp2_with (fail)
    refine (works24_any w10).mono ?_
    rintro e w11 ⟨rfl, hb11⟩
    have B := Lib.hid (bThen S10.out.bel hb11)
    clear hb11
    go_wp2_with (fail)
    go_ret
    exact ⟨rfl, B.out⟩
end Go.Proofs.Ytofclanljhfkiaa
