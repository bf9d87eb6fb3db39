/-
  float64 of whole numbers below 2^52: sums, differences, comparisons are exact. No program in sight.
-/
import Derived.WalkLawsBesides
namespace Go.Proofs.Ytbmegoemimfiaaa
open Go Ieee
def rungOf (n : Nat) : Nat := (n.log2 + 1022) * 2 ^ 52 + n * 2 ^ (52 - n.log2)
theorem log2_le (n : Nat) (h0 : 0 < n) (h : n < 2 ^ 53) : n.log2 ≤ 52 := by
  have := (Nat.log2_lt (by omega)).2 h
  omega
theorem mant_bounds (n : Nat) (h0 : 0 < n) (h : n < 2 ^ 53) : 2 ^ 52 ≤ n * 2 ^ (52 - n.log2) ∧ n * 2 ^ (52 - n.log2) < 2 ^ 53 := by
  have hl := log2_le n h0 h
  have h1 := Nat.log2_self_le (n := n) (by omega)
  have h2 := Nat.lt_log2_self (n := n)
  have e1 : 2 ^ n.log2 * 2 ^ (52 - n.log2) = 2 ^ 52 := by rw [← Nat.pow_add]; congr 1; omega
  have e2 : 2 ^ (n.log2 + 1) * 2 ^ (52 - n.log2) = 2 ^ 53 := by rw [← Nat.pow_add]; congr 1; omega
  have hp : 0 < 2 ^ (52 - n.log2) := Nat.two_pow_pos _
  constructor
  · rw [← e1]; exact Nat.mul_le_mul_right _ h1
  · rw [← e2]; exact Nat.mul_lt_mul_of_pos_right h2 hp
theorem log2_mul_pow (n q : Nat) (h0 : 0 < n) : (n * 2 ^ q).log2 = n.log2 + q := by
  have hn : n * 2 ^ q ≠ 0 := by have := Nat.mul_pos h0 (Nat.two_pow_pos q); omega
  have h1 := Nat.log2_self_le (n := n) (by omega)
  have h2 := Nat.lt_log2_self (n := n)
  apply Nat.le_antisymm
  · have : n * 2 ^ q < 2 ^ (n.log2 + q + 1) := by
      rw [show n.log2 + q + 1 = (n.log2 + 1) + q by omega, Nat.pow_add]
      exact Nat.mul_lt_mul_of_pos_right h2 (Nat.two_pow_pos q)
    have := (Nat.log2_lt hn).2 this
    omega
  · rw [Nat.le_log2 hn, Nat.pow_add]
    exact Nat.mul_le_mul_right _ h1
theorem cut_zero (n : Nat) : Toward.even.cut false n 0 = n := by
  simp [Toward.cut, Nat.mod_one]
theorem cut_pow (m d : Nat) (h0 : 0 < m) : Toward.even.cut false (m * 2 ^ d) d = m := by
  have hl : min d ((m * 2 ^ d).log2 + 2) = d := by rw [log2_mul_pow m d h0]; omega
  have hp : 0 < 2 ^ d := Nat.two_pow_pos d
  simp only [Toward.cut, hl, Nat.one_shiftLeft, Nat.mul_div_cancel _ hp, Nat.mul_mod_left]
  simp
theorem nearest_eq (n q : Nat) (h0 : 0 < n) (h : n < 2 ^ 53) (_hq : q ≤ 1074) : double.nearest false (n * 2 ^ q) (-(q : Int)) = rungOf n := by
  have hn : n * 2 ^ q ≠ 0 := by have := Nat.mul_pos h0 (Nat.two_pow_pos q); omega
  have hl := log2_le n h0 h
  obtain ⟨hm1, hm2⟩ := mant_bounds n h0 h
  have hlp : double.leastPlace = -1074 := by decide
  have hlast : max (-(q : Int) + ((n * 2 ^ q).log2 : Int) - (double.fractionBits : Int)) double.leastPlace = (n.log2 : Int) - 52 := by
    rw [log2_mul_pow n q h0, hlp]
    show max (-(q : Int) + ((n.log2 + q : Nat) : Int) - 52) (-1074) = _
    omega
  have hkept : Toward.even.cut false ((n * 2 ^ q) <<< (-(q : Int) - ((n.log2 : Int) - 52)).toNat) (((n.log2 : Int) - 52) - -(q : Int)).toNat = n * 2 ^ (52 - n.log2) := by
    by_cases hc : q ≤ 52 - n.log2
    · rw [show (-(q : Int) - ((n.log2 : Int) - 52)).toNat = 52 - n.log2 - q by omega, show (((n.log2 : Int) - 52) - -(q : Int)).toNat = 0 by omega, cut_zero, Nat.shiftLeft_eq, Nat.mul_assoc, ← Nat.pow_add]
      congr 2
      omega
    · rw [show (-(q : Int) - ((n.log2 : Int) - 52)).toNat = 0 by omega, show (((n.log2 : Int) - 52) - -(q : Int)).toNat = q - (52 - n.log2) by omega, Nat.shiftLeft_zero]
      have e : n * 2 ^ q = n * 2 ^ (52 - n.log2) * 2 ^ (q - (52 - n.log2)) := by
        rw [Nat.mul_assoc, ← Nat.pow_add]
        congr 2
        omega
      rw [e]
      exact cut_pow _ _ (by omega)
  unfold Format.nearest
  rw [if_neg hn]
  simp only [hlast, hkept]
  have hw : (((n.log2 : Int) - 52) - double.leastPlace).toNat * double.binade + n * 2 ^ (52 - n.log2) = rungOf n := by
    rw [hlp, show (((n.log2 : Int) - 52) - -1074).toNat = n.log2 + 1022 by omega]
    rfl
  rw [hw]
  have hi : rungOf n ≤ double.infRung := by
    have : double.infRung = 2047 * 2 ^ 52 := by decide
    rw [this]
    unfold rungOf
    omega
  rw [Nat.min_eq_left hi]
  rfl
def fz (n : Int) : Nat := floatOfInt .f64 n
theorem fz_zero : fz 0 = 0 := by decide +kernel
theorem fz_eq (n : Nat) (h0 : 0 < n) (h : n < 2 ^ 53) : fz (n : Int) = rungOf n := by
  have := nearest_eq n 0 h0 h (by omega)
  rw [Nat.pow_zero, Nat.mul_one] at this
  rw [← this]
  show double.nearest (decide ((n : Int) < 0)) (n : Int).natAbs 0 = _
  rw [decide_eq_false (by omega)]
  rfl
theorem read_fz (n : Nat) (h : n < 2 ^ 53) : ∃ q : Nat, q ≤ 1074 ∧ double.read (fz n) = .number false (n * 2 ^ q) (-(q : Int)) := by
  rcases Nat.eq_zero_or_pos n with rfl | h0
  · refine ⟨1074, by omega, ?_⟩
    rw [show ((0 : Nat) : Int) = 0 from rfl, fz_zero]
    decide +kernel
  · have hl := log2_le n h0 h
    obtain ⟨hm1, hm2⟩ := mant_bounds n h0 h
    refine ⟨52 - n.log2, by omega, ?_⟩
    rw [fz_eq n h0 h]
    have hsw : double.signWeight = 2 ^ 63 := by decide
    have hbd : double.binade = 2 ^ 52 := by decide
    have hir : double.infRung = 2047 * 2 ^ 52 := by decide
    have hlp : double.leastPlace = -1074 := by decide
    have hr : rungOf n = (n.log2 + 1022) * 2 ^ 52 + n * 2 ^ (52 - n.log2) := rfl
    generalize n * 2 ^ (52 - n.log2) = M at *
    generalize rungOf n = R at *
    unfold Format.read
    rw [hsw, hbd, hir, hlp]
    have e1 : R / 2 ^ 63 % 2 = 0 := by omega
    have e2 : R % 2 ^ 63 = R := by omega
    have e3 : 2 ^ 52 + R % 2 ^ 52 = M := by omega
    have e4 : R / 2 ^ 52 = n.log2 + 1023 := by omega
    simp only [e1, e2]
    rw [if_neg (by omega), if_pos (by omega), e3, e4]
    have e5 : (-1074 + ((n.log2 + 1023 - 1 : Nat) : Int)) = -((52 - n.log2 : Nat) : Int) := by omega
    rw [e5]
    rfl
theorem shl (a qa qb : Nat) (h : qa ≤ qb) : (a * 2 ^ qa) <<< (qb - qa) = a * 2 ^ qb := by
  rw [Nat.shiftLeft_eq, Nat.mul_assoc, ← Nat.pow_add]
  congr 2
  omega
theorem write_fz (n q : Nat) (h : n < 2 ^ 53) (hq : q ≤ 1074) : double.nearest false (n * 2 ^ q) (-(q : Int)) = fz n := by
  rcases Nat.eq_zero_or_pos n with rfl | h0
  · rw [show ((0 : Nat) : Int) = 0 from rfl, fz_zero, Nat.zero_mul]
    rfl
  · rw [nearest_eq n q h0 h hq, fz_eq n h0 h]
theorem fz_add (a b : Nat) (ha : a < 2 ^ 52) (hb : b < 2 ^ 52) : floatBits .add .f64 (fz a) (fz b) = some (fz ((a + b : Nat) : Int)) := by
  obtain ⟨qa, hqa, ra⟩ := read_fz a (by omega)
  obtain ⟨qb, hqb, rb⟩ := read_fz b (by omega)
  show ((double.read (fz a)).sum (double.read (fz b))).map double.write = _
  rw [ra, rb]
  have hq : ∃ q, q = max qa qb := ⟨_, rfl⟩
  obtain ⟨q, hq⟩ := hq
  have hbase : min (-(qa : Int)) (-(qb : Int)) = -(q : Int) := by omega
  have s1 : (a * 2 ^ qa) <<< (-(qa : Int) - -(q : Int)).toNat = a * 2 ^ q := by
    rw [show (-(qa : Int) - -(q : Int)).toNat = q - qa by omega]; exact shl a qa q (by omega)
  have s2 : (b * 2 ^ qb) <<< (-(qb : Int) - -(q : Int)).toNat = b * 2 ^ q := by
    rw [show (-(qb : Int) - -(q : Int)).toNat = q - qb by omega]; exact shl b qb q (by omega)
  have tot : signed false (a * 2 ^ qa) (-(qa : Int) - -(q : Int)).toNat + signed false (b * 2 ^ qb) (-(qb : Int) - -(q : Int)).toNat = (((a + b) * 2 ^ q : Nat) : Int) := by
    simp only [signed, Bool.false_eq_true, if_false, s1, s2]
    rw [Nat.add_mul]
    omega
  simp only [Datum.sum, hbase, tot, Option.map_some, Format.write]
  have hneg : (if (((a + b) * 2 ^ q : Nat) : Int) = 0 then false && false else decide ((((a + b) * 2 ^ q : Nat) : Int) < 0)) = false := by
    split
    · rfl
    · exact decide_eq_false (by omega)
  rw [hneg, Int.natAbs_natCast, write_fz (a + b) q (by omega) (by omega)]
theorem fz_sub (a b : Nat) (ha : a < 2 ^ 52) (hb : b ≤ a) : floatBits .sub .f64 (fz a) (fz b) = some (fz ((a - b : Nat) : Int)) := by
  obtain ⟨qa, hqa, ra⟩ := read_fz a (by omega)
  obtain ⟨qb, hqb, rb⟩ := read_fz b (by omega)
  show ((double.read (fz a)).sum (double.read (fz b)).opposite).map double.write = _
  rw [ra, rb]
  have hq : ∃ q, q = max qa qb := ⟨_, rfl⟩
  obtain ⟨q, hq⟩ := hq
  have hbase : min (-(qa : Int)) (-(qb : Int)) = -(q : Int) := by omega
  have s1 : (a * 2 ^ qa) <<< (-(qa : Int) - -(q : Int)).toNat = a * 2 ^ q := by
    rw [show (-(qa : Int) - -(q : Int)).toNat = q - qa by omega]; exact shl a qa q (by omega)
  have s2 : (b * 2 ^ qb) <<< (-(qb : Int) - -(q : Int)).toNat = b * 2 ^ q := by
    rw [show (-(qb : Int) - -(q : Int)).toNat = q - qb by omega]; exact shl b qb q (by omega)
  have hle : b * 2 ^ q ≤ a * 2 ^ q := Nat.mul_le_mul_right _ hb
  have tot : signed false (a * 2 ^ qa) (-(qa : Int) - -(q : Int)).toNat + signed true (b * 2 ^ qb) (-(qb : Int) - -(q : Int)).toNat = (((a - b) * 2 ^ q : Nat) : Int) := by
    simp only [signed, Bool.false_eq_true, if_false, if_true, s1, s2]
    rw [Nat.sub_mul]
    omega
  simp only [Datum.opposite, Datum.sum, Bool.not_false, hbase, tot, Option.map_some, Format.write]
  have hneg : (if (((a - b) * 2 ^ q : Nat) : Int) = 0 then false && true else decide ((((a - b) * 2 ^ q : Nat) : Int) < 0)) = false := by
    split
    · rfl
    · exact decide_eq_false (by omega)
  rw [hneg, Int.natAbs_natCast, write_fz (a - b) q (by omega) (by omega)]
theorem fz_order (a b : Nat) (ha : a < 2 ^ 52) (hb : b < 2 ^ 52) : FloatKind.f64.format.order (fz a) (fz b) = some (compare a b) := by
  obtain ⟨qa, hqa, ra⟩ := read_fz a (by omega)
  obtain ⟨qb, hqb, rb⟩ := read_fz b (by omega)
  show (double.read (fz a)).order (double.read (fz b)) = _
  rw [ra, rb]
  have hq : ∃ q, q = max qa qb := ⟨_, rfl⟩
  obtain ⟨q, hq⟩ := hq
  have hbase : min (-(qa : Int)) (-(qb : Int)) = -(q : Int) := by omega
  have s1 : (a * 2 ^ qa) <<< (-(qa : Int) - -(q : Int)).toNat = a * 2 ^ q := by
    rw [show (-(qa : Int) - -(q : Int)).toNat = q - qa by omega]; exact shl a qa q (by omega)
  have s2 : (b * 2 ^ qb) <<< (-(qb : Int) - -(q : Int)).toNat = b * 2 ^ q := by
    rw [show (-(qb : Int) - -(q : Int)).toNat = q - qb by omega]; exact shl b qb q (by omega)
  simp only [Datum.order, hbase, signed, Bool.false_eq_true, if_false, s1, s2]
  congr 1
  have hp : 0 < 2 ^ q := Nat.two_pow_pos q
  rcases Nat.lt_trichotomy a b with h | rfl | h
  · have h' : a * 2 ^ q < b * 2 ^ q := Nat.mul_lt_mul_of_pos_right h hp
    rw [Nat.compare_eq_lt.2 h]
    exact Int.compare_eq_lt.2 (by omega)
  · rw [Nat.compare_eq_eq.2 rfl]
    exact Int.compare_eq_eq.2 rfl
  · have h' : b * 2 ^ q < a * 2 ^ q := Nat.mul_lt_mul_of_pos_right h hp
    rw [Nat.compare_eq_gt.2 h]
    exact Int.compare_eq_gt.2 (by omega)
end Go.Proofs.Ytbmegoemimfiaaa
