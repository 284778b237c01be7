/- The sums, differences, comparisons and conversions of the doubles that stand for whole numbers of two hundred fifty-sixths are exact; for magnitudes below 2^52 of them. -/
import Ieee.Arith
namespace Go.Proofs.Ytedbbbbjajafgaa.Fl
open Ieee

theorem log2_mul_pow (m q : Nat) (hm : m ≠ 0) : (m * 2 ^ q).log2 = m.log2 + q := by
  have hp : 0 < 2 ^ q := Nat.two_pow_pos q
  rw [Nat.log2_eq_iff (Nat.mul_ne_zero hm (by omega))]
  have h1 := Nat.log2_self_le hm
  have h2 := @Nat.lt_log2_self m
  constructor
  · rw [Nat.pow_add]; exact Nat.mul_le_mul_right _ h1
  · rw [show m.log2 + q + 1 = (m.log2 + 1) + q from by omega, Nat.pow_add]
    exact Nat.mul_lt_mul_of_pos_right h2 hp

/-- the lower bits of the word of 'a' two hundred fifty-sixths -/
def rung (a : Nat) : Nat := if a = 0 then 0 else (a.log2 + 1014) * 4503599627370496 + a * 2 ^ (52 - a.log2)

theorem cut_exact (neg : Bool) (k drop : Nat) (hk : k ≠ 0) : Toward.even.cut neg (k * 2 ^ drop) drop = k := by
  have hp : 0 < 2 ^ drop := Nat.two_pow_pos drop
  have hl := log2_mul_pow k drop hk
  have hmin : min drop ((k * 2 ^ drop).log2 + 2) = drop := by omega
  unfold Toward.cut
  simp only [hmin, Nat.shiftLeft_eq, Nat.one_mul, Nat.mul_mod_left, Nat.mul_div_cancel _ hp]
  simp

theorem nearest_rung (neg : Bool) (m a q c : Nat) (p : Int) (hc : c = 1066) (ha : a < 2 ^ 53) (hp : p + 1074 = q) (h : m * 2 ^ q = a * 2 ^ c) :
    double.nearest neg m p = double.word neg (rung a) := by
  have e1 : double.leastPlace = -1074 := by decide
  have e2 : double.binade = 4503599627370496 := by decide
  have e3 : double.infRung = 2047 * 4503599627370496 := by decide
  have e4 : double.fractionBits = 52 := rfl
  by_cases hm : m = 0
  · subst hm
    have : a = 0 := by
      have hh : a * 2 ^ c = 0 := by rw [← h]; simp
      rcases Nat.mul_eq_zero.1 hh with h0 | h0
      · exact h0
      · exact absurd h0 (Nat.ne_of_gt (Nat.two_pow_pos _))
    subst this
    simp [Format.nearest, rung]
  · have ha0 : a ≠ 0 := by
      intro h0; subst h0
      rw [Nat.zero_mul] at h
      rcases Nat.mul_eq_zero.1 h with h0 | h0
      · exact hm h0
      · exact absurd h0 (Nat.ne_of_gt (Nat.two_pow_pos _))
    have hlog : m.log2 + q = a.log2 + c := by
      rw [← log2_mul_pow m q hm, h, log2_mul_pow a c ha0]
    have hla : a.log2 ≤ 52 := by
      have := (Nat.log2_lt ha0 (k := 53)).2 ha
      omega
    have hlast : max (p + (m.log2 : Int) - ((52 : Nat) : Int)) (-1074) = (a.log2 : Int) - 60 := by omega
    have hkept : Toward.even.cut neg (m <<< (p - ((a.log2 : Int) - 60)).toNat) (((a.log2 : Int) - 60) - p).toNat = a * 2 ^ (52 - a.log2) := by
      rw [Nat.shiftLeft_eq]
      by_cases hc : (a.log2 : Int) - 60 ≤ p
      · obtain ⟨d, hd⟩ : ∃ d : Nat, p - ((a.log2 : Int) - 60) = d := ⟨(p - ((a.log2 : Int) - 60)).toNat, by omega⟩
        have hd0 : (((a.log2 : Int) - 60) - p).toNat = 0 := by omega
        rw [hd0, hd, Int.toNat_natCast]
        have hq : q = d + (a.log2 + 1014) := by omega
        have hk : m * 2 ^ d = a * 2 ^ (52 - a.log2) := by
          have hpos : 0 < 2 ^ (a.log2 + 1014) := Nat.two_pow_pos _
          refine Nat.eq_of_mul_eq_mul_right hpos ?_
          rw [Nat.mul_assoc, ← Nat.pow_add, ← hq, h, Nat.mul_assoc, ← Nat.pow_add, show 52 - a.log2 + (a.log2 + 1014) = c from by omega]
        rw [hk]
        have := cut_exact neg (a * 2 ^ (52 - a.log2)) 0 (by
          have := Nat.two_pow_pos (52 - a.log2)
          exact Nat.mul_ne_zero ha0 (by omega))
        simpa using this
      · obtain ⟨d, hd⟩ : ∃ d : Nat, ((a.log2 : Int) - 60) - p = d := ⟨(((a.log2 : Int) - 60) - p).toNat, by omega⟩
        have hd0 : (p - ((a.log2 : Int) - 60)).toNat = 0 := by omega
        rw [hd0, hd, Int.toNat_natCast, Nat.pow_zero, Nat.mul_one]
        have hq : q + d = a.log2 + 1014 := by omega
        have hk : m = a * 2 ^ (52 - a.log2) * 2 ^ d := by
          have hpos : 0 < 2 ^ q := Nat.two_pow_pos _
          refine Nat.eq_of_mul_eq_mul_right hpos ?_
          rw [h, Nat.mul_assoc, Nat.mul_assoc, ← Nat.pow_add, ← Nat.pow_add, show 52 - a.log2 + (d + q) = c from by omega]
        rw [hk]
        exact cut_exact neg _ d (by
          have := Nat.two_pow_pos (52 - a.log2)
          exact Nat.mul_ne_zero ha0 (by omega))
    have hk53 : a * 2 ^ (52 - a.log2) < 9007199254740992 := by
      have h2 := @Nat.lt_log2_self a
      have hpos : 0 < 2 ^ (52 - a.log2) := Nat.two_pow_pos _
      have h3 : a * 2 ^ (52 - a.log2) < 2 ^ (a.log2 + 1) * 2 ^ (52 - a.log2) := Nat.mul_lt_mul_of_pos_right h2 hpos
      rw [← Nat.pow_add, show a.log2 + 1 + (52 - a.log2) = 53 from by omega] at h3
      exact h3
    unfold Format.nearest
    rw [if_neg hm, e1, e2, e3, e4]
    simp only []
    rw [hlast, hkept]
    have ht : ((a.log2 : Int) - 60 - -1074).toNat = a.log2 + 1014 := by omega
    rw [ht]
    unfold rung
    rw [if_neg ha0, Nat.min_eq_left (by omega)]

theorem rung_lt (a : Nat) (ha : a < 2 ^ 53) : rung a < 1068 * 4503599627370496 := by
  unfold rung
  split
  · omega
  · rename_i ha0
    have hla : a.log2 ≤ 52 := by
      have := (Nat.log2_lt ha0 (k := 53)).2 ha
      omega
    have h2 := @Nat.lt_log2_self a
    have hpos : 0 < 2 ^ (52 - a.log2) := Nat.two_pow_pos _
    have h3 : a * 2 ^ (52 - a.log2) < 2 ^ (a.log2 + 1) * 2 ^ (52 - a.log2) := Nat.mul_lt_mul_of_pos_right h2 hpos
    rw [← Nat.pow_add, show a.log2 + 1 + (52 - a.log2) = 53 from by omega] at h3
    have : (2:Nat) ^ 53 = 9007199254740992 := by decide
    omega

/-- What is read back: the very number. -/
theorem read_rung (neg : Bool) (a c : Nat) (hc : c = 1066) (ha : a < 2 ^ 53) :
    ∃ (m q : Nat), double.read (double.word neg (rung a)) = .number neg m ((q : Int) - 1074) ∧ m * 2 ^ q = a * 2 ^ c := by
  have e1 : double.leastPlace = -1074 := by decide
  have e2 : double.binade = 4503599627370496 := by decide
  have e3 : double.infRung = 2047 * 4503599627370496 := by decide
  have e5 : double.signWeight = 9223372036854775808 := by decide
  have hr := rung_lt a ha
  have hmod : double.word neg (rung a) % 9223372036854775808 = rung a := by
    unfold Format.word; rw [e5]; cases neg <;> simp <;> omega
  have hsg : (double.word neg (rung a) / 9223372036854775808 % 2 == 1) = neg := by
    unfold Format.word; rw [e5]
    cases neg
    · have : rung a / 9223372036854775808 = 0 := Nat.div_eq_of_lt (by omega)
      simp [this]
    · have : (9223372036854775808 + rung a) / 9223372036854775808 = 1 := by omega
      simp [this]
  unfold Format.read
  rw [e1, e2, e3, e5]
  simp only []
  rw [hmod, hsg]
  by_cases ha0 : a = 0
  · subst ha0
    refine ⟨0, 0, ?_, by simp⟩
    simp [rung]
  · have hla : a.log2 ≤ 52 := by
      have := (Nat.log2_lt ha0 (k := 53)).2 ha
      omega
    have hpos : 0 < 2 ^ (52 - a.log2) := Nat.two_pow_pos _
    have hk53 : a * 2 ^ (52 - a.log2) < 9007199254740992 := by
      have h2 := @Nat.lt_log2_self a
      have h3 : a * 2 ^ (52 - a.log2) < 2 ^ (a.log2 + 1) * 2 ^ (52 - a.log2) := Nat.mul_lt_mul_of_pos_right h2 hpos
      rw [← Nat.pow_add, show a.log2 + 1 + (52 - a.log2) = 53 from by omega] at h3
      exact h3
    have hk52 : 4503599627370496 ≤ a * 2 ^ (52 - a.log2) := by
      have h2 := Nat.log2_self_le ha0
      have h3 : 2 ^ a.log2 * 2 ^ (52 - a.log2) ≤ a * 2 ^ (52 - a.log2) := Nat.mul_le_mul_right _ h2
      rw [← Nat.pow_add, show a.log2 + (52 - a.log2) = 52 from by omega] at h3
      exact h3
    have hrung : rung a = (a.log2 + 1014) * 4503599627370496 + a * 2 ^ (52 - a.log2) := by unfold rung; rw [if_neg ha0]
    refine ⟨a * 2 ^ (52 - a.log2), a.log2 + 1014, ?_, ?_⟩
    · generalize a * 2 ^ (52 - a.log2) = k at *
      rw [hrung, if_neg (by omega), if_pos (by omega)]
      have hdiv : ((a.log2 + 1014) * 4503599627370496 + k) / 4503599627370496 = a.log2 + 1015 := by omega
      have hmd : ((a.log2 + 1014) * 4503599627370496 + k) % 4503599627370496 = k - 4503599627370496 := by omega
      rw [hdiv, hmd]
      rw [show 4503599627370496 + (k - 4503599627370496) = k from by omega, show ((-1074 : Int) + ((a.log2 + 1015 - 1 : Nat) : Int)) = ((a.log2 + 1014 : Nat) : Int) - 1074 from by omega]
    · rw [Nat.mul_assoc, ← Nat.pow_add, show 52 - a.log2 + (a.log2 + 1014) = c from by omega]

theorem signed_eq (sg : Bool) (k u : Nat) : signed sg k u = (if sg then -((k * 2 ^ u : Nat) : Int) else ((k * 2 ^ u : Nat) : Int)) := by
  unfold signed; rw [Nat.shiftLeft_eq]

/-- the sign that a word of 'm' has, the noughts' by 's' -/
def sg (s : Bool) (m : Int) : Bool := if m = 0 then s else decide (m < 0)
/-- the word of 'm' two hundred fifty-sixths -/
def fz (s : Bool) (m : Int) : Nat := double.word (sg s m) (rung m.natAbs)

theorem sg_of_pos {s : Bool} {m : Int} (h : 0 < m) : sg s m = false := by unfold sg; rw [if_neg (by omega)]; simp; omega
theorem sg_of_neg {s : Bool} {m : Int} (h : m < 0) : sg s m = true := by unfold sg; rw [if_neg (by omega)]; simpa using h
theorem sg_zero (s : Bool) : sg s 0 = s := rfl

theorem read_fz (s : Bool) (m : Int) (c : Nat) (hc : c = 1066) (hm : m.natAbs < 2 ^ 53) :
    ∃ (k q : Nat), double.read (fz s m) = .number (sg s m) k ((q : Int) - 1074) ∧ k * 2 ^ q = m.natAbs * 2 ^ c ∧ signed (sg s m) k q = m * ((2 ^ c : Nat) : Int) := by
  obtain ⟨k, q, h1, h2⟩ := read_rung (sg s m) m.natAbs c hc hm
  refine ⟨k, q, h1, h2, ?_⟩
  rw [signed_eq, h2]
  rcases Int.lt_trichotomy m 0 with h | h | h
  · rw [sg_of_neg h, if_pos rfl]
    rw [Int.natCast_mul, ← Int.neg_mul]
    congr 1
    omega
  · subst h; simp
  · rw [sg_of_pos h, if_neg (by simp), Int.natCast_mul]
    congr 1
    omega

theorem signed_up (g : Bool) (k u q : Nat) : signed g k u * ((2 ^ q : Nat) : Int) = signed g k (u + q) := by
  rw [signed_eq, signed_eq, Nat.pow_add, ← Nat.mul_assoc]
  cases g
  · simp only [Bool.false_eq_true, if_false]; rw [← Int.natCast_mul]
  · simp only [if_true]; rw [Int.neg_mul, ← Int.natCast_mul]

/-- 'number's that stand for m and n two hundred fifty-sixths: their sum's word -/
theorem sum_word (c : Nat) (hc : c = 1066) (g1 g2 : Bool) (k1 k2 q1 q2 : Nat) (m n : Int) (h1 : signed g1 k1 q1 = m * ((2 ^ c : Nat) : Int)) (h2 : signed g2 k2 q2 = n * ((2 ^ c : Nat) : Int))
    (hb : (m + n).natAbs < 2 ^ 53) :
    ((Datum.number g1 k1 ((q1 : Int) - 1074)).sum (.number g2 k2 ((q2 : Int) - 1074))).map double.write = some (fz (g1 && g2) (m + n)) := by
  have hmin : ∃ q : Nat, min ((q1 : Int) - 1074) ((q2 : Int) - 1074) = (q : Int) - 1074 ∧ q ≤ q1 ∧ q ≤ q2 := ⟨min q1 q2, by omega, by omega, by omega⟩
  obtain ⟨q, hq, hq1, hq2⟩ := hmin
  have hp : (0 : Int) < ((2 ^ c : Nat) : Int) := by have := Nat.two_pow_pos c; omega
  have hpq : (0 : Int) < ((2 ^ q : Nat) : Int) := by have := Nat.two_pow_pos q; omega
  simp only [Datum.sum, Option.map_some, hq]
  have e1 : ((q1 : Int) - 1074 - ((q : Int) - 1074)).toNat = q1 - q := by omega
  have e2 : ((q2 : Int) - 1074 - ((q : Int) - 1074)).toNat = q2 - q := by omega
  rw [e1, e2]
  have ht : (signed g1 k1 (q1 - q) + signed g2 k2 (q2 - q)) * ((2 ^ q : Nat) : Int) = (m + n) * ((2 ^ c : Nat) : Int) := by
    rw [Int.add_mul, signed_up, signed_up, Nat.sub_add_cancel hq1, Nat.sub_add_cancel hq2, h1, h2, Int.add_mul]
  generalize signed g1 k1 (q1 - q) + signed g2 k2 (q2 - q) = t at *
  have hz : t = 0 ↔ m + n = 0 := by
    constructor
    · intro h; subst h
      rw [Int.zero_mul] at ht
      rcases Int.mul_eq_zero.1 ht.symm with h | h
      · exact h
      · omega
    · intro h; rw [h, Int.zero_mul] at ht
      rcases Int.mul_eq_zero.1 ht with h | h
      · exact h
      · omega
  have hn : t < 0 ↔ m + n < 0 := by
    constructor
    · intro h
      have h3 : t * ((2 ^ q : Nat) : Int) < 0 := Int.mul_neg_of_neg_of_pos h hpq
      rw [ht] at h3
      by_cases h4 : m + n < 0
      · exact h4
      · have := Int.mul_nonneg (show 0 ≤ m + n from by omega) (Int.le_of_lt hp); omega
    · intro h
      have h3 : (m + n) * ((2 ^ c : Nat) : Int) < 0 := Int.mul_neg_of_neg_of_pos h hp
      rw [← ht] at h3
      by_cases h4 : t < 0
      · exact h4
      · have := Int.mul_nonneg (show 0 ≤ t from by omega) (Int.le_of_lt hpq); omega
  have ha : t.natAbs * 2 ^ q = (m + n).natAbs * 2 ^ c := by
    have := congrArg Int.natAbs ht
    rw [Int.natAbs_mul, Int.natAbs_mul, Int.natAbs_natCast, Int.natAbs_natCast] at this
    exact this
  have hw : double.write (.number (if t = 0 then g1 && g2 else decide (t < 0)) t.natAbs ((q : Int) - 1074)) = fz (g1 && g2) (m + n) := by
    show double.nearest _ _ _ = _
    rw [nearest_rung _ t.natAbs (m + n).natAbs q c _ hc hb (by omega) ha]
    unfold fz sg
    congr 1
    by_cases h0 : m + n = 0
    · rw [if_pos h0, if_pos (hz.2 h0)]
    · rw [if_neg h0, if_neg (fun h => h0 (hz.1 h))]
      exact decide_eq_decide.2 hn
  exact congrArg some hw

theorem add_fz (s t : Bool) (m n : Int) (hm : m.natAbs < 2 ^ 52) (hn : n.natAbs < 2 ^ 52) : double.add (fz s m) (fz t n) = some (fz (sg s m && sg t n) (m + n)) := by
  obtain ⟨c, hc⟩ : ∃ c : Nat, c = 1066 := ⟨_, rfl⟩
  obtain ⟨k1, q1, h1, _, h3⟩ := read_fz s m c hc (by omega)
  obtain ⟨k2, q2, h4, _, h6⟩ := read_fz t n c hc (by omega)
  unfold Format.add
  rw [h1, h4]
  exact sum_word c hc _ _ _ _ _ _ m n h3 h6 (by omega)

theorem signed_not (g : Bool) (k q : Nat) : signed (!g) k q = - signed g k q := by
  rw [signed_eq, signed_eq]; cases g <;> simp

theorem sub_fz (s t : Bool) (m n : Int) (hm : m.natAbs < 2 ^ 52) (hn : n.natAbs < 2 ^ 52) : double.sub (fz s m) (fz t n) = some (fz (sg s m && !sg t n) (m - n)) := by
  obtain ⟨c, hc⟩ : ∃ c : Nat, c = 1066 := ⟨_, rfl⟩
  obtain ⟨k1, q1, h1, _, h3⟩ := read_fz s m c hc (by omega)
  obtain ⟨k2, q2, h4, _, h6⟩ := read_fz t n c hc (by omega)
  unfold Format.sub
  rw [h1, h4]
  have := sum_word c hc (sg s m) (!sg t n) k1 k2 q1 q2 m (-n) h3 (by rw [signed_not, h6, Int.neg_mul]) (by omega)
  rw [show m - n = m + -n from by omega]
  exact this

theorem order_fz (s t : Bool) (m n : Int) (hm : m.natAbs < 2 ^ 52) (hn : n.natAbs < 2 ^ 52) : double.order (fz s m) (fz t n) = some (compare m n) := by
  obtain ⟨c, hc⟩ : ∃ c : Nat, c = 1066 := ⟨_, rfl⟩
  obtain ⟨k1, q1, h1, _, h3⟩ := read_fz s m c hc (by omega)
  obtain ⟨k2, q2, h4, _, h6⟩ := read_fz t n c hc (by omega)
  have hmin : ∃ q : Nat, min ((q1 : Int) - 1074) ((q2 : Int) - 1074) = (q : Int) - 1074 ∧ q ≤ q1 ∧ q ≤ q2 := ⟨min q1 q2, by omega, by omega, by omega⟩
  obtain ⟨q, hq, hq1, hq2⟩ := hmin
  have hp : (0 : Int) < ((2 ^ c : Nat) : Int) := by have := Nat.two_pow_pos c; omega
  have hpq : (0 : Int) < ((2 ^ q : Nat) : Int) := by have := Nat.two_pow_pos q; omega
  unfold Format.order
  rw [h1, h4]
  simp only [Datum.order, hq]
  have e1 : ((q1 : Int) - 1074 - ((q : Int) - 1074)).toNat = q1 - q := by omega
  have e2 : ((q2 : Int) - 1074 - ((q : Int) - 1074)).toNat = q2 - q := by omega
  rw [e1, e2]
  have a1 : signed (sg s m) k1 (q1 - q) * ((2 ^ q : Nat) : Int) = m * ((2 ^ c : Nat) : Int) := by rw [signed_up, Nat.sub_add_cancel hq1, h3]
  have a2 : signed (sg t n) k2 (q2 - q) * ((2 ^ q : Nat) : Int) = n * ((2 ^ c : Nat) : Int) := by rw [signed_up, Nat.sub_add_cancel hq2, h6]
  generalize signed (sg s m) k1 (q1 - q) = x at *
  generalize signed (sg t n) k2 (q2 - q) = y at *
  generalize ((2 ^ q : Nat) : Int) = Q at *
  generalize ((2 ^ c : Nat) : Int) = C at *
  have key : compare x y = compare m n := by
    rcases Int.lt_trichotomy m n with h | h | h
    · have hxy : x < y := by
        have h5 : m * C < n * C := Int.mul_lt_mul_of_pos_right h hp
        rw [← a1, ← a2] at h5
        exact Int.lt_of_mul_lt_mul_right h5 (Int.le_of_lt hpq)
      rw [Int.compare_eq_lt.2 h, Int.compare_eq_lt.2 hxy]
    · subst h
      have hxy : x = y := by
        have h5 : x * Q = y * Q := a1.trans a2.symm
        exact Int.eq_of_mul_eq_mul_right (by omega) h5
      rw [hxy, Int.compare_eq_eq.2 rfl, Int.compare_eq_eq.2 rfl]
    · have hxy : y < x := by
        have h5 : n * C < m * C := Int.mul_lt_mul_of_pos_right h hp
        rw [← a1, ← a2] at h5
        exact Int.lt_of_mul_lt_mul_right h5 (Int.le_of_lt hpq)
      rw [Int.compare_eq_gt.2 h, Int.compare_eq_gt.2 hxy]
  rw [key]

theorem sg_neg (s : Bool) (m : Int) : sg (!s) (-m) = !sg s m := by
  rcases Int.lt_trichotomy m 0 with h | h | h
  · rw [sg_of_neg h, sg_of_pos (by omega)]; rfl
  · subst h; rfl
  · rw [sg_of_pos h, sg_of_neg (by omega)]; rfl

theorem word_xor (g : Bool) (r : Nat) (hr : r < 1068 * 4503599627370496) : double.word g r ^^^ 2 ^ 63 = double.word (!g) r := by
  have e5 : double.signWeight = 2 ^ 63 := by decide
  have hlt : r < 2 ^ 63 := by have : (2 : Nat) ^ 63 = 9223372036854775808 := by decide
                              omega
  unfold Format.word
  rw [e5]
  have key : r ^^^ 2 ^ 63 = 2 ^ 63 + r := by
    have h := Nat.two_pow_add_eq_or_of_lt hlt 1
    rw [Nat.mul_one] at h
    rw [h]
    apply Nat.eq_of_testBit_eq
    intro i
    rw [Nat.testBit_xor, Nat.testBit_or, Nat.testBit_two_pow]
    by_cases hi : 63 = i
    · subst hi
      have : r.testBit 63 = false := Nat.testBit_lt_two_pow hlt
      simp [this]
    · simp [hi]
  cases g
  · simpa using key
  · simp only [if_true, Bool.not_true, Bool.false_eq_true, if_false]
    rw [← key, Nat.xor_assoc, Nat.xor_self, Nat.xor_zero]

theorem neg_fz (s : Bool) (m : Int) (hm : m.natAbs < 2 ^ 53) : fz s m ^^^ 2 ^ 63 = fz (!s) (-m) := by
  unfold fz
  rw [word_xor _ _ (rung_lt _ hm), sg_neg, Int.natAbs_neg]

theorem nearest_int (n : Int) (hn : n.natAbs < 2 ^ 44) : double.write (.number (decide (n < 0)) n.natAbs 0) = fz false (256 * n) := by
  obtain ⟨c, hc⟩ : ∃ c : Nat, c = 1066 := ⟨_, rfl⟩
  show double.nearest _ _ _ = _
  rw [nearest_rung _ n.natAbs (256 * n).natAbs 1074 c 0 hc (by omega) (by omega) (by
    rw [show (1074 : Nat) = 8 + c from by omega, Nat.pow_add, Int.natAbs_mul, ← Nat.mul_assoc]
    congr 1
    rw [Nat.mul_comm]; rfl)]
  unfold fz sg
  congr 1
  by_cases h0 : n = 0
  · subst h0; rfl
  · rw [if_neg (by omega)]
    exact decide_eq_decide.2 (by omega)

theorem cut_zero (neg : Bool) (n drop : Nat) : Toward.zero.cut neg n drop = n / 2 ^ drop := by
  unfold Toward.cut
  simp only [Nat.shiftLeft_eq, Nat.one_mul, Bool.toNat_false, Nat.add_zero]
  by_cases h : drop ≤ n.log2 + 2
  · rw [Nat.min_eq_left h]
  · rw [Nat.min_eq_right (by omega)]
    by_cases hn : n = 0
    · subst hn; simp
    · have h1 := @Nat.lt_log2_self n
      have h2 : 2 ^ (n.log2 + 1) ≤ 2 ^ (n.log2 + 2) := Nat.pow_le_pow_right (by omega) (by omega)
      have h3 : 2 ^ (n.log2 + 1) ≤ 2 ^ drop := Nat.pow_le_pow_right (by omega) (by omega)
      rw [Nat.div_eq_of_lt (by omega), Nat.div_eq_of_lt (by omega)]

/-- made whole: the number of wholes -/
theorem integral_fz (s : Bool) (m : Int) (hm : m.natAbs < 2 ^ 52) : (double.read (fz s m)).integral .zero = .number (sg s m) (m.natAbs / 256) 0 := by
  obtain ⟨c, hc⟩ : ∃ c : Nat, c = 1066 := ⟨_, rfl⟩
  obtain ⟨k, q, h1, h2, _⟩ := read_fz s m c hc (by omega)
  rw [h1]
  simp only [Datum.integral]
  rw [cut_zero, Nat.shiftLeft_eq]
  congr 1
  by_cases hq : 1074 ≤ q
  · obtain ⟨d, rfl⟩ : ∃ d, q = d + 1074 := ⟨q - 1074, by omega⟩
    have e1 : ((d + 1074 : Nat) : Int) - 1074 = d := by omega
    rw [e1, Int.toNat_natCast, show (-(d : Int)).toNat = 0 from by omega, Nat.pow_zero, Nat.div_one]
    have : m.natAbs = k * 2 ^ d * 256 := by
      refine Nat.eq_of_mul_eq_mul_right (Nat.two_pow_pos c) ?_
      rw [← h2, show d + 1074 = d + 8 + c from by omega, Nat.pow_add, Nat.pow_add, ← Nat.mul_assoc, ← Nat.mul_assoc]
    omega
  · obtain ⟨d, hd⟩ : ∃ d, 1074 = q + d := ⟨1074 - q, by omega⟩
    have e1 : ((q : Int) - 1074).toNat = 0 := by omega
    have e2 : (-((q : Int) - 1074)).toNat = d := by omega
    rw [e1, e2, Nat.pow_zero, Nat.mul_one]
    -- k / 2^d = |m| / 256 ; k * 2^q = |m| * 2^c, q + d = 1074 = c + 8
    have h3 : k * 2 ^ q * 2 ^ 8 = m.natAbs * 2 ^ 1074 := by
      rw [h2, Nat.mul_assoc, ← Nat.pow_add, show c + 8 = 1074 from by omega]
    have h4 : k * 256 = m.natAbs * 2 ^ d := by
      refine Nat.eq_of_mul_eq_mul_right (Nat.two_pow_pos q) ?_
      rw [Nat.mul_assoc m.natAbs, ← Nat.pow_add, show d + q = 1074 from by omega, ← h3, Nat.mul_assoc, Nat.mul_assoc, Nat.mul_comm 256]
    have hp : 0 < 2 ^ d := Nat.two_pow_pos d
    have h5 : k * 256 / (2 ^ d * 256) = k / 2 ^ d := Nat.mul_div_mul_right _ _ (by omega)
    rw [← h5, h4, Nat.mul_comm (2 ^ d) 256, Nat.mul_div_mul_right _ _ hp]

theorem trunc_fz (s : Bool) (m : Int) (hm : m.natAbs < 2 ^ 52) : double.write ((double.read (fz s m)).integral .zero) = fz (sg s m) (256 * m.tdiv 256) := by
  obtain ⟨c, hc⟩ : ∃ c : Nat, c = 1066 := ⟨_, rfl⟩
  rw [integral_fz s m hm]
  show double.nearest _ _ _ = _
  have ha : (256 * m.tdiv 256).natAbs = m.natAbs / 256 * 256 := by
    have h1 : (m.tdiv 256).natAbs = m.natAbs / 256 := Int.natAbs_tdiv m 256
    have h2 : (256 : Int).natAbs = 256 := rfl
    rw [Int.natAbs_mul, h1, h2]; omega
  rw [nearest_rung _ (m.natAbs / 256) (256 * m.tdiv 256).natAbs 1074 c 0 hc (by omega) (by omega) (by
    rw [ha, show (1074 : Nat) = 8 + c from by omega, Nat.pow_add, ← Nat.mul_assoc])]
  unfold fz
  congr 1
  by_cases h0 : 256 * m.tdiv 256 = 0
  · rw [h0]; rfl
  · rcases Int.lt_trichotomy m 0 with h | h | h
    · rw [sg_of_neg h]
      unfold sg
      rw [if_neg h0]
      have h1 : m.tdiv 256 = -((-m).tdiv 256) := by rw [← Int.neg_tdiv, Int.neg_neg]
      have h2 : 0 ≤ (-m).tdiv 256 := Int.tdiv_nonneg (by omega) (by omega)
      simp; omega
    · subst h; simp at h0
    · rw [sg_of_pos h]
      unfold sg
      rw [if_neg h0]
      have : 0 ≤ m.tdiv 256 := Int.tdiv_nonneg (by omega) (by omega)
      simp; omega

theorem toInt_fz (s : Bool) (n : Int) (hn : n.natAbs < 2 ^ 44) : (double.read (fz s (256 * n))).toInt .zero = some n := by
  unfold Datum.toInt
  rw [integral_fz s _ (by omega)]
  simp only [Option.some.injEq]
  rw [signed_eq, Nat.pow_zero, Nat.mul_one]
  have e : (256 * n).natAbs / 256 = n.natAbs := by
    have h2 : (256 : Int).natAbs = 256 := rfl
    rw [Int.natAbs_mul, h2]; omega
  rw [e]
  rcases Int.lt_trichotomy n 0 with h | h | h
  · rw [sg_of_neg (by omega), if_pos rfl]; omega
  · subst h; cases s <;> rfl
  · rw [sg_of_pos (by omega), if_neg (by simp)]; omega

theorem div256 : ∀ k : Fin 256, double.div (fz false (256 * (k.val : Int))) (fz false 65536) = some (fz false (k.val : Int)) := by decide +kernel

theorem fz_one : fz false 256 = 4607182418800017408 := by decide +kernel
theorem fz_mone : fz false (-256) = 13830554455654793216 := by decide +kernel
theorem fz_half : fz false 128 = 4602678819172646912 := by decide +kernel
theorem fz_nought : fz false 0 = 0 := by decide +kernel
theorem fz_lo : fz false (-1073741824) = 13929633647456944128 := by decide +kernel
theorem fz_hi : fz false 1073741824 = 4706261610602168320 := by decide +kernel
theorem fz_far : fz false (256 * 16777216) = 4715268809856909312 := by decide +kernel
#print axioms toInt_fz
#print axioms div256
end Go.Proofs.Ytedbbbbjajafgaa.Fl
