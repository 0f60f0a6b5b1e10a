/-
  Plain law: whole numbers below 2^53 as words of the double format: what they read as, and that sums, comparisons and cuts of them are exact. No condition beyond the theorems' own hypotheses.
-/
import GoSem.Core.Float
namespace Go.Proofs.YtgoeiejdcpoaaaaDoor.Fl
open Ieee

/-- The word of a whole number. -/
def W (n : Nat) : Nat := double.nearest false n 0
/-- A datum that stands for a whole number. -/
def Reads (d : Datum) (n : Nat) : Prop := ∃ k : Nat, d = .number false (n * 2 ^ k) (-(k : Int))

theorem log2_mul (n k : Nat) (h : 0 < n) : (n * 2 ^ k).log2 = n.log2 + k := by
  have h0 : n * 2 ^ k ≠ 0 := by have := Nat.two_pow_pos k; exact Nat.ne_of_gt (Nat.mul_pos h this)
  rw [Nat.log2_eq_iff h0, Nat.pow_add]
  have h1 := Nat.log2_self_le (Nat.ne_of_gt h)
  have h2 := @Nat.lt_log2_self n
  constructor
  · exact Nat.mul_le_mul_right _ h1
  · rw [show n.log2 + k + 1 = (n.log2 + 1) + k by omega, Nat.pow_add]
    exact Nat.mul_lt_mul_of_pos_right h2 (Nat.two_pow_pos k)

theorem cut_exact (m s : Nat) (h : 0 < m) : Toward.even.cut false (m * 2 ^ s) s = m := by
  have hl := log2_mul m s h
  have hmin : min s ((m * 2 ^ s).log2 + 2) = s := by omega
  have hp := Nat.two_pow_pos s
  unfold Toward.cut
  simp only [hmin, Nat.one_shiftLeft, Nat.mul_div_cancel _ hp, Nat.mul_mod_left]
  simp

/-- What is written of a number that fits. -/
def rung (n : Nat) : Nat := (n.log2 + 1022) * 2 ^ 52 + n * 2 ^ (52 - n.log2)

theorem log2_lt (n : Nat) (h : 0 < n) (h1 : n < 2 ^ 53) : n.log2 ≤ 52 := by
  have := (Nat.log2_lt (Nat.ne_of_gt h)).2 h1
  omega
theorem kept_lo (n : Nat) (h : 0 < n) (h1 : n < 2 ^ 53) : 2 ^ 52 ≤ n * 2 ^ (52 - n.log2) := by
  have hl := log2_lt n h h1
  have := Nat.log2_self_le (Nat.ne_of_gt h)
  calc 2 ^ 52 = 2 ^ n.log2 * 2 ^ (52 - n.log2) := by rw [← Nat.pow_add]; congr 1; omega
    _ ≤ _ := Nat.mul_le_mul_right _ this
theorem kept_hi (n : Nat) (h : 0 < n) (h1 : n < 2 ^ 53) : n * 2 ^ (52 - n.log2) < 2 ^ 53 := by
  have hl := log2_lt n h h1
  have := @Nat.lt_log2_self n
  calc n * 2 ^ (52 - n.log2) < 2 ^ (n.log2 + 1) * 2 ^ (52 - n.log2) := Nat.mul_lt_mul_of_pos_right this (Nat.two_pow_pos _)
    _ = 2 ^ 53 := by rw [← Nat.pow_add]; congr 1; omega

theorem nearest_rung (n k : Nat) (h : 0 < n) (h1 : n < 2 ^ 53) : double.nearest false (n * 2 ^ k) (-(k : Int)) = rung n := by
  have hl := log2_lt n h h1
  have hz : n * 2 ^ k ≠ 0 := Nat.ne_of_gt (Nat.mul_pos h (Nat.two_pow_pos k))
  unfold Format.nearest
  rw [if_neg hz, log2_mul n k h]
  have hlp : double.leastPlace = -1074 := by decide
  have hlast : max (-(k : Int) + ((n.log2 + k : Nat) : Int) - (double.fractionBits : Int)) (-1074) = (n.log2 : Int) - 52 := by
    show max (-(k : Int) + ((n.log2 + k : Nat) : Int) - 52) (-1074) = _
    omega
  simp only [hlp, hlast]
  have e1 : ((n.log2 : Int) - 52 - -1074).toNat = n.log2 + 1022 := by omega
  have hb : double.binade = 2 ^ 52 := rfl
  have hinf : double.infRung = 2047 * 2 ^ 52 := by decide
  have hkept : Toward.even.cut false ((n * 2 ^ k) <<< (-(k : Int) - ((n.log2 : Int) - 52)).toNat) ((n.log2 : Int) - 52 - -(k : Int)).toNat = n * 2 ^ (52 - n.log2) := by
    by_cases hk : k ≤ 52 - n.log2
    · have a1 : (-(k : Int) - ((n.log2 : Int) - 52)).toNat = 52 - n.log2 - k := by omega
      have a2 : ((n.log2 : Int) - 52 - -(k : Int)).toNat = 0 := by omega
      rw [a1, a2, Nat.shiftLeft_eq, Nat.mul_assoc, ← Nat.pow_add, show k + (52 - n.log2 - k) = 52 - n.log2 by omega]
      have := cut_exact (n * 2 ^ (52 - n.log2)) 0 (Nat.mul_pos h (Nat.two_pow_pos _))
      simpa using this
    · have a1 : (-(k : Int) - ((n.log2 : Int) - 52)).toNat = 0 := by omega
      have a2 : ((n.log2 : Int) - 52 - -(k : Int)).toNat = k - (52 - n.log2) := by omega
      rw [a1, a2, Nat.shiftLeft_zero, show n * 2 ^ k = n * 2 ^ (52 - n.log2) * 2 ^ (k - (52 - n.log2)) by rw [Nat.mul_assoc, ← Nat.pow_add]; congr 2; omega]
      exact cut_exact _ _ (Nat.mul_pos h (Nat.two_pow_pos _))
  rw [hkept, e1, hb, hinf]
  have := kept_hi n h h1
  unfold Format.word rung
  simp only [Bool.false_eq_true, if_false]
  omega
theorem W_eq (n : Nat) (h : 0 < n) (h1 : n < 2 ^ 53) : W n = rung n := by
  have := nearest_rung n 0 h h1
  simpa [W] using this
theorem W_zero : W 0 = 0 := by decide
theorem nearest_W (n k : Nat) (h1 : n < 2 ^ 53) : double.nearest false (n * 2 ^ k) (-(k : Int)) = W n := by
  by_cases h : n = 0
  · subst h
    rw [W_zero]
    simp [Format.nearest, Format.word]
  · rw [nearest_rung n k (by omega) h1, W_eq n (by omega) h1]

theorem read_W (n : Nat) (h1 : n < 2 ^ 53) : Reads (double.read (W n)) n := by
  by_cases h : n = 0
  · subst h
    rw [W_zero]
    obtain ⟨k, hk⟩ : ∃ k : Nat, k = 1074 := ⟨_, rfl⟩
    refine ⟨k, ?_⟩
    rw [Nat.zero_mul]
    subst hk
    decide +kernel
  · have hp : 0 < n := by omega
    have hl := log2_lt n hp h1
    have hlo := kept_lo n hp h1
    have hhi := kept_hi n hp h1
    rw [W_eq n hp h1]
    refine ⟨52 - n.log2, ?_⟩
    have hb : double.binade = 2 ^ 52 := rfl
    have hinf : double.infRung = 2047 * 2 ^ 52 := by decide
    have hsw : double.signWeight = 2 ^ 63 := by decide
    have hlp : double.leastPlace = -1074 := by decide
    have hr : rung n = (n.log2 + 1023) * 2 ^ 52 + (n * 2 ^ (52 - n.log2) - 2 ^ 52) := by unfold rung; omega
    generalize hm : n * 2 ^ (52 - n.log2) = m at *
    have hlt : rung n < 2 ^ 63 := by omega
    have hdiv : rung n / 2 ^ 52 = n.log2 + 1023 := by omega
    have hmod : rung n % 2 ^ 52 = m - 2 ^ 52 := by omega
    unfold Format.read
    simp only [hsw, hb, hinf, hlp, Nat.mod_eq_of_lt hlt, Nat.div_eq_of_lt hlt, hdiv, hmod]
    rw [if_neg (by omega), if_pos (by omega)]
    rw [show 2 ^ 52 + (m - 2 ^ 52) = m by omega, show (-1074 : Int) + ((n.log2 + 1023 - 1 : Nat) : Int) = -((52 - n.log2 : Nat) : Int) by omega]
    rfl

theorem signed_shift (a k s : Nat) : signed false (a * 2 ^ k) s = ((a * 2 ^ (k + s) : Nat) : Int) := by
  unfold signed
  simp only [Bool.false_eq_true, if_false]
  rw [Nat.shiftLeft_eq, Nat.mul_assoc, ← Nat.pow_add]

theorem sum_reads {d e : Datum} {a b : Nat} (hd : Reads d a) (he : Reads e b) : ∃ s, d.sum e = some s ∧ Reads s (a + b) := by
  obtain ⟨k, rfl⟩ := hd
  obtain ⟨l, rfl⟩ := he
  unfold Datum.sum
  simp only
  refine ⟨_, rfl, max k l, ?_⟩
  have hbase : min (-(k : Int)) (-(l : Int)) = -((max k l : Nat) : Int) := by omega
  rw [hbase, signed_shift, signed_shift]
  rw [show k + (-(k : Int) - -((max k l : Nat) : Int)).toNat = max k l by omega, show l + (-(l : Int) - -((max k l : Nat) : Int)).toNat = max k l by omega]
  have e1 : ((a * 2 ^ max k l : Nat) : Int) + ((b * 2 ^ max k l : Nat) : Int) = (((a + b) * 2 ^ max k l : Nat) : Int) := by rw [Nat.add_mul]; simp
  rw [e1]
  generalize (a + b) * 2 ^ max k l = t
  by_cases ht : t = 0
  · subst ht; simp
  · have h1 : ((t : Int) = 0) = False := by simp; omega
    have h2 : decide ((t : Int) < 0) = false := by simp
    simp [ht]
theorem add_W (a b : Nat) (ha : a < 2 ^ 53) (hb : b < 2 ^ 53) (hab : a + b < 2 ^ 53) : double.add (W a) (W b) = some (W (a + b)) := by
  obtain ⟨s, h1, k, rfl⟩ := sum_reads (read_W a ha) (read_W b hb)
  unfold Format.add
  rw [h1]
  simp only [Option.map_some, Format.write]
  rw [nearest_W _ _ hab]
theorem add_top : double.add (W (2 ^ 52)) (W (2 ^ 52)) = some (double.nearest false (2 ^ 53) 0) := by decide +kernel
theorem order_reads {d e : Datum} {a b : Nat} (hd : Reads d a) (he : Reads e b) : d.order e = some (compare a b) := by
  obtain ⟨k, rfl⟩ := hd
  obtain ⟨l, rfl⟩ := he
  unfold Datum.order
  simp only
  have hbase : min (-(k : Int)) (-(l : Int)) = -((max k l : Nat) : Int) := by omega
  rw [hbase, signed_shift, signed_shift]
  rw [show k + (-(k : Int) - -((max k l : Nat) : Int)).toNat = max k l by omega, show l + (-(l : Int) - -((max k l : Nat) : Int)).toNat = max k l by omega]
  have hp := Nat.two_pow_pos (max k l)
  generalize 2 ^ max k l = p at *
  congr 1
  simp only [compare, compareOfLessAndEq]
  have e1 : ((a * p : Nat) : Int) < ((b * p : Nat) : Int) ↔ a < b := by
    rw [Int.ofNat_lt]
    exact Nat.mul_lt_mul_right hp
  have e2 : ((a * p : Nat) : Int) = ((b * p : Nat) : Int) ↔ a = b := by
    rw [Int.ofNat_inj]
    exact Nat.mul_right_cancel_iff hp
  by_cases h1 : a < b
  · rw [if_pos (e1.2 h1), if_pos h1]
  · rw [if_neg (fun h => h1 (e1.1 h)), if_neg h1]
    by_cases h2 : a = b
    · rw [if_pos (e2.2 h2), if_pos h2]
    · rw [if_neg (fun h => h2 (e2.1 h)), if_neg h2]
theorem order_W (a b : Nat) (ha : a < 2 ^ 53) (hb : b < 2 ^ 53) : double.order (W a) (W b) = some (compare a b) := order_reads (read_W a ha) (read_W b hb)
theorem cut_zero (m s : Nat) : Toward.zero.cut false (m * 2 ^ s) s = m := by
  by_cases h : m = 0
  · subst h
    simp [Toward.cut]
  · have hl := log2_mul m s (by omega)
    have hmin : min s ((m * 2 ^ s).log2 + 2) = s := by omega
    unfold Toward.cut
    simp only [hmin, Nat.one_shiftLeft, Nat.mul_div_cancel _ (Nat.two_pow_pos s)]
    simp
theorem toInt_reads {d : Datum} {n : Nat} (h : Reads d n) : d.toInt .zero = some (n : Int) := by
  obtain ⟨k, rfl⟩ := h
  unfold Datum.toInt Datum.integral
  simp only
  have a1 : (-(k : Int)).toNat = 0 := by omega
  have a2 : (- -(k : Int)).toNat = k := by omega
  rw [a1, a2, Nat.shiftLeft_zero, cut_zero]
  simp [signed]
theorem toInt_W (n : Nat) (h : n < 2 ^ 53) : (double.read (W n)).toInt .zero = some (n : Int) := toInt_reads (read_W n h)
end Go.Proofs.YtgoeiejdcpoaaaaDoor.Fl
