import Derived.Test.YtgoeiejdcpoaaaaDoorProg
import Derived.Test.YtgoeiejdcpoaaaaDoorFl
import Derived.WalkKit
import Derived.WalkSpells
import Derived.Handy
import Derived.Lib.Hide
import Derived.Laws.FloatArith
namespace Go.Proofs.YtgoeiejdcpoaaaaDoor
open Go.RowKit Fl

theorem fits_any (n : Int) (w : World) : Calls Tryd.prog 33 #[.int .i64 n] w fun e w' => e = .returned (.bool (decide (0 ≤ n) && decide (n ≤ 4503599627370496))) ∧ w = w' := by
  by_cases h0 : 0 ≤ n
  · by_cases h1 : n ≤ 4503599627370496
    · go_enter Tryd.func33, Tryd.ntmps33
      go_wp2
      go_ret
      exact ⟨by simp [h0, h1], rfl⟩
    · have h1' : decide (n ≤ 4503599627370496) = false := by simpa using h1
      go_enter Tryd.func33, Tryd.ntmps33
      go_wp2
      go_ret
      exact ⟨by simp [h0, h1], rfl⟩
  · have h0' : decide (0 ≤ n) = false := by simpa using h0
    go_enter Tryd.func33, Tryd.ntmps33
    go_wp2
    go_ret
    exact ⟨by simp [h0], rfl⟩
theorem foi (n : Nat) : floatOfInt .f64 (n : Int) = W n := by
  have h : decide ((n : Int) < 0) = false := decide_eq_false (by omega)
  simp only [floatOfInt, FloatKind.nearest, FloatKind.encode, FloatKind.format, Ieee.Format.write, W, h, Int.natAbs_natCast]
  -- FloatKind.encode, FloatKind.format, Ieee.Format.write, W]
theorem run_complex (x y : Nat) (w : World) : (Builtin.complex_ #[61, 61] 32 #[.float .f64 x, .float .f64 y]).run Tryd.prog w = .ok (.complex .f64 x y) w := by kernel_rfl
theorem run_real (x y : Nat) (w : World) : (Builtin.real_ #[32] 61 #[.complex .f64 x y]).run Tryd.prog w = .ok (.float .f64 x) w := by kernel_rfl
theorem run_imag (x y : Nat) (w : World) : (Builtin.imag_ #[32] 61 #[.complex .f64 x y]).run Tryd.prog w = .ok (.float .f64 y) w := by kernel_rfl
theorem run_cadd (x y x' y' r s : Nat) (h : Ieee.double.add x x' = some r) (h' : Ieee.double.add y y' = some s) (w : World) : (binOp .add 32 (.complex .f64 x y) (.complex .f64 x' y')).run Tryd.prog w = .ok (.complex .f64 r s) w := by
  simp [binOp, Op.complexOp, Op.Complex.arith, Op.floatArith, h, h', FloatKind.format]
theorem make_yes (a b : Nat) (ha : (a : Int) ≤ 4503599627370496) (hb : (b : Int) ≤ 4503599627370496) (w : World) : Calls Tryd.prog 22 #[.int .i64 a, .int .i64 b] w fun e w' => e = .returned (.tuple #[.complex .f64 (W a) (W b), .int .i64 0]) ∧ w = w' := by
  have h1 : decide ((0 : Int) ≤ a) = true := by simp
  have h2 : decide ((0 : Int) ≤ b) = true := by simp
  have f1 := foi a
  have f2 := foi b
  have r1 := fun w => run_complex (W a) (W b) w
  go_enter Tryd.func22, Tryd.ntmps22
  go_wp2_with (go_at_call 33; refine (fits_any _ _).mono ?_; rintro e w' ⟨rfl, rfl⟩)
  go_ret2
  exact ⟨rfl, rfl⟩
theorem make_no (a b : Int) (h : ¬ (0 ≤ a ∧ a ≤ 4503599627370496 ∧ 0 ≤ b ∧ b ≤ 4503599627370496)) (w : World) : Calls Tryd.prog 22 #[.int .i64 a, .int .i64 b] w fun e w' => e = .returned (.tuple #[.complex .f64 0 0, .int .i64 2]) ∧ w = w' := by
  by_cases ha : 0 ≤ a ∧ a ≤ 4503599627370496
  · have h1 : (decide (0 ≤ a) && decide (a ≤ 4503599627370496)) = true := by simp; exact ha
    have h2 : (decide (0 ≤ b) && decide (b ≤ 4503599627370496)) = false := by
      cases e : (decide (0 ≤ b) && decide (b ≤ 4503599627370496))
      · rfl
      · simp at e; exact absurd ⟨ha.1, ha.2, e.1, e.2⟩ h
    generalize e1 : (decide (0 ≤ a) && decide (a ≤ 4503599627370496)) = A at *
    generalize e2 : (decide (0 ≤ b) && decide (b ≤ 4503599627370496)) = B at *
    subst h1 h2
    have H1 := Lib.hid e1
    have H2 := Lib.hid e2
    clear h ha e1 e2
    go_enter Tryd.func22, Tryd.ntmps22
    go_wp2_with (go_at_call 33; refine (fits_any _ _).mono ?_; rintro e w' ⟨rfl, rfl⟩; first | rw [H1.out] | rw [H2.out])
    go_ret2
    exact ⟨rfl, rfl⟩
  · have h1 : (decide (0 ≤ a) && decide (a ≤ 4503599627370496)) = false := by
      cases e : (decide (0 ≤ a) && decide (a ≤ 4503599627370496))
      · rfl
      · simp at e; exact absurd e ha
    have H1 := Lib.hid h1
    clear h ha h1
    go_enter Tryd.func22, Tryd.ntmps22
    go_wp2_with (go_at_call 33; refine (fits_any _ _).mono ?_; rintro e w' ⟨rfl, rfl⟩; rw [H1.out])
    go_ret2
    exact ⟨rfl, rfl⟩
theorem W_max : W 4503599627370496 = 4841369599423283200 := by decide +kernel
theorem fi (a : Nat) (ha : a ≤ 4503599627370496) (w : World) : (convert 61 2 (.float .f64 (W a))).run Tryd.prog w = .ok (.int .i64 a) w := by
  refine run_convert_float_int w 61 2 .f64 .i64 (W a) a (by rw [Tryd.underlying61]; rfl) Tryd.underlying2 ?_
  unfold floatToIntVal
  have h : (FloatKind.f64.decode (W a)).toInt .zero = some (a : Int) := toInt_W a (by omega)
  rw [h]
  simp only
  rw [if_pos]
  simp [IntKind.min, IntKind.max, IntKind.signed, IntKind.bits]
  omega
theorem ord (a b : Nat) (ha : a < 2 ^ 53) (hb : b < 2 ^ 53) (c : Ordering) (h : compare a b = c) : FloatKind.f64.format.order (W a) (W b) = some c := by
  subst h
  exact order_W a b ha hb
set_option maxRecDepth 20000 in
theorem part_run (a x : Nat) (f1 : floatOfInt .f64 (a : Int) = x) (g1 : ∀ w, (convert 61 2 (.float .f64 x)).run Tryd.prog w = .ok (.int .i64 a) w) (e2 : FloatKind.f64.format.order x x = some .eq) (c d : Ordering) (hc : c ≠ .lt) (hd : d ≠ .gt) (o1 : FloatKind.f64.format.order x 0 = some c) (o2 : FloatKind.f64.format.order x 4841369599423283200 = some d) (w : World) :
    Calls Tryd.prog 32 #[.float .f64 x] w fun e w' => e = .returned (.tuple #[.int .i64 a, .bool true]) ∧ w = w' := by
  cases c <;> cases d <;> first | exact absurd rfl hc | exact absurd rfl hd | skip
  all_goals clear hc hd
  all_goals go_enter Tryd.func32, Tryd.ntmps32
  all_goals go_wp2
  all_goals go_ret2
  all_goals exact ⟨rfl, rfl⟩
theorem part_yes (a : Nat) (ha : a ≤ 4503599627370496) (w : World) : Calls Tryd.prog 32 #[.float .f64 (W a)] w fun e w' => e = .returned (.tuple #[.int .i64 a, .bool true]) ∧ w = w' := by
  have e0 := ord a 0 (by omega) (by omega) _ rfl
  have e1 := ord a 4503599627370496 (by omega) (by omega) _ rfl
  rw [W_zero] at e0
  rw [W_max] at e1
  refine part_run a (W a) (foi a) (fun w => fi a ha w) (ord a a (by omega) (by omega) .eq (by simp [compare, compareOfLessAndEq])) _ _ ?_ ?_ e0 e1 w
  · intro h
    have := Nat.compare_eq_lt.1 h
    omega
  · intro h
    have := Nat.compare_eq_gt.1 h
    omega
theorem read_yes (a b : Nat) (ha : a ≤ 4503599627370496) (hb : b ≤ 4503599627370496) (w : World) : Calls Tryd.prog 21 #[.complex .f64 (W a) (W b)] w fun e w' => e = .returned (.tuple #[.int .i64 a, .int .i64 b, .int .i64 0]) ∧ w = w' := by
  have r1 := fun w => run_real (W a) (W b) w
  have r2 := fun w => run_imag (W a) (W b) w
  have P1 := Lib.hid (part_yes a ha)
  have P2 := Lib.hid (part_yes b hb)
  clear ha hb
  generalize W a = x at *
  generalize W b = y at *
  go_enter Tryd.func21, Tryd.ntmps21
  go_wp2_with (first
    | (go_at_call 32; have hq := HM; clear hq; refine (P2.out _).mono ?_; rintro e w' ⟨rfl, rfl⟩)
    | (go_at_call 32; refine (P1.out _).mono ?_; rintro e w' ⟨rfl, rfl⟩; have HM := Lib.hid trivial))
  go_ret3
  exact ⟨rfl, rfl⟩
end Go.Proofs.YtgoeiejdcpoaaaaDoor
