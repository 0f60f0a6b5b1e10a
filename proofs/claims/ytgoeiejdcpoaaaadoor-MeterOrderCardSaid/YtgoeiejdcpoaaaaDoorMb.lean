/-
  Walks: (*Meter).adds: the four ways in which it ends. Part of the proofs of the meter's statements. No condition beyond the theorems' own hypotheses.
-/
import Derived.Test.YtgoeiejdcpoaaaaDoorMa
import Derived.Maps.OwnOps
import Derived.Maps.OwnSet
import Derived.Maps.RangeWalk
import Derived.StringKeys
namespace Go.Proofs.YtgoeiejdcpoaaaaDoor
open Go.RowKit Go.Maps Fl

abbrev DV := DataW Value
/-- Whatever value an entry holds is read as itself. -/
def RH (v : Value) : Option (DataW Value × List MemPlace) := some (.held v, [])
theorem law9 : Keyed Tryd.prog 9 := string_keyed Tryd.underlying9
theorem key9 (s : ByteArray) (hs : s.size ≤ maxLen) : keyOf Tryd.prog 9 (.string s) = some (.string s.data.toList) := Go.WideMaps.keyOf_string_mk Tryd.underlying9 hs
theorem zero32 (w : World) : (zeroValue 32).run Tryd.prog w = .ok (.complex .f64 0 0) w := by kernel_rfl
theorem add_any (a b : Nat) (ha : a ≤ 4503599627370496) (hb : b ≤ 4503599627370496) : ∃ x, Ieee.double.add (W a) (W b) = some x ∧ (a + b ≤ 4503599627370496 → x = W (a + b)) ∧ FloatKind.f64.format.order x 4841369599423283200 = some (compare (a + b) 4503599627370496) := by
  by_cases h : a + b < 2 ^ 53
  · refine ⟨_, add_W a b (by omega) (by omega) h, fun _ => rfl, ?_⟩
    have := ord (a + b) 4503599627370496 h (by omega) _ rfl
    rwa [W_max] at this
  · obtain rfl : a = 2 ^ 52 := by omega
    obtain rfl : b = 2 ^ 52 := by omega
    exact ⟨_, add_top, fun h' => by omega, by decide +kernel⟩
theorem cmp_le {n m : Nat} (h : n ≤ m) : (some (compare n m) == some Ordering.gt) = false := by
  cases e : compare n m
  · rfl
  · rfl
  · have := Nat.compare_eq_gt.1 e; omega
theorem cmp_gt {n m : Nat} (h : m < n) : (some (compare n m) == some Ordering.gt) = true := by
  rw [Nat.compare_eq_gt.2 h]; rfl
/-- What a look-up answers: the entry, or nothing. -/
theorem look_has {w : World} {b Q : Nat} {D : DV} (hown : w.ownsMap Tryd.prog 9 RH b Q D) {key : Value} {kl : Lit} (hkey : keyOf Tryd.prog 9 key = some kl) {v0 : Value} (hyes : ∀ z, D.atKey kl z = .held v0) :
    (Instr.lookup 62 (.map (some b)) key true).run Tryd.prog w = .ok (.tuple #[v0, .bool true]) w := by
  obtain ⟨v, ps, h1, h2⟩ := hown.look_ok law9 Tryd.underlying62 (zero32 w) (zd := .held (.complex .f64 0 0)) (zp := []) rfl hkey
  rw [hyes] at h2
  simp [RH] at h2
  rw [h1, Maps.has_true_of_atKey hyes, h2.1]
theorem look_not {w : World} {b Q : Nat} {D : DV} (hown : w.ownsMap Tryd.prog 9 RH b Q D) {key : Value} {kl : Lit} (hkey : keyOf Tryd.prog 9 key = some kl) (hno : Maps.has D kl = false) :
    (Instr.lookup 62 (.map (some b)) key true).run Tryd.prog w = .ok (.tuple #[.complex .f64 0 0, .bool false]) w := by
  obtain ⟨v, ps, h1, h2⟩ := hown.look_ok law9 Tryd.underlying62 (zero32 w) (zd := .held (.complex .f64 0 0)) (zp := []) rfl hkey
  rw [Maps.atKey_of_not_has hno] at h2
  simp [RH] at h2
  rw [h1, hno, h2.1]

section
variable (b Q : Nat) (D : DV) (w : World) (hown : w.ownsMap Tryd.prog 9 RH b Q D) (s : ByteArray) (kl : Lit) (hkl : keyOf Tryd.prog 9 (.string s) = some kl) (a c : Nat) (ha : a ≤ 4503599627370496) (hc : c ≤ 4503599627370496)
include hown hkl ha hc
set_option maxRecDepth 20000 in
theorem adds_full (hno : Maps.has D kl = false) (hf : 64 ≤ Maps.size D) (hf1 : Maps.size D ≤ 1000000) : Calls Tryd.prog 27 #[.map (some b), .string s, .complex .f64 (W a) (W c)] w fun e w' => e = .returned (.int .i64 6) ∧ w = w' := by
  have hl := look_not hown hkl hno
  have hlen := fun ty => hown.len Tryd.underlying62 ty
  have hf' : (64 : Int) ≤ (Maps.size D : Int) := by omega
  have r1 := run_cadd 0 0 (W a) (W c) (W a) (W c) (by have := add_W 0 a (by omega) (by omega) (by omega); rwa [W_zero, Nat.zero_add] at this) (by have := add_W 0 c (by omega) (by omega) (by omega); rwa [W_zero, Nat.zero_add] at this) w
  clear ha hc hown hno
  generalize W a = x at *
  generalize W c = y at *
  go_enter Tryd.func27, Tryd.ntmps27
  go_wp2
  go_ret
  exact ⟨rfl, rfl⟩
set_option maxRecDepth 20000 in
theorem adds_new (hQ : Q < 1000000) (hno : Maps.has D kl = false) (hf : Maps.size D < 64) : Calls Tryd.prog 27 #[.map (some b), .string s, .complex .f64 (W a) (W c)] w fun e w' => e = .returned (.int .i64 0) ∧ w'.ownsMap Tryd.prog 9 RH b (Q + 1) (D.put kl (.held (.complex .f64 (W a) (W c)))) ∧ w.grownBy w' (some b) := by
  have hl := look_not hown hkl hno
  have hlen := fun ty => hown.len Tryd.underlying62 ty
  have hf' : decide ((64 : Int) ≤ (Maps.size D : Int)) = false := by simp; omega
  have r1 := run_cadd 0 0 (W a) (W c) (W a) (W c) (by have := add_W 0 a (by omega) (by omega) (by omega); rwa [W_zero, Nat.zero_add] at this) (by have := add_W 0 c (by omega) (by omega) (by omega); rwa [W_zero, Nat.zero_add] at this) w
  have r2 := fun w => run_real (W a) (W c) w
  have r3 := fun w => run_imag (W a) (W c) w
  have o1 := ord a 4503599627370496 (by omega) (by omega) _ rfl
  have o2 := ord c 4503599627370496 (by omega) (by omega) _ rfl
  rw [W_max] at o1 o2
  have g1 : (FloatKind.f64.format.order (W a) 4841369599423283200 == some Ordering.gt) = false := by rw [o1]; exact cmp_le ha
  have g2 : (FloatKind.f64.format.order (W c) 4841369599423283200 == some Ordering.gt) = false := by rw [o2]; exact cmp_le hc
  have HO := Lib.hid hown
  have HK := Lib.hid hkl
  clear ha hc hown hno o1 o2 hf hkl
  generalize W a = x at *
  generalize W c = y at *
  go_enter Tryd.func27, Tryd.ntmps27
  go_wp2_with (first
    | (at_mapUpdate; refine wpList_mapUpdate_own _ rfl _ _ _ 62 rfl 9 32 law9 Tryd.underlying62 RH b Q D rfl HO.out (by unfold maxLen; omega) _ _ kl rfl rfl HK.out (.held (.complex .f64 x y)) [] rfl ?_; intro w2 hown2 hgrow2))
  go_ret
  exact ⟨rfl, hown2, hgrow2⟩
set_option maxRecDepth 20000 in
theorem adds_more (hQ : Q < 1000000) (a0 c0 : Nat) (hyes : ∀ z, D.atKey kl z = .held (.complex .f64 (W a0) (W c0))) (ha1 : a0 + a ≤ 4503599627370496) (hc1 : c0 + c ≤ 4503599627370496) : Calls Tryd.prog 27 #[.map (some b), .string s, .complex .f64 (W a) (W c)] w fun e w' => e = .returned (.int .i64 0) ∧ w'.ownsMap Tryd.prog 9 RH b (Q + 1) (D.put kl (.held (.complex .f64 (W (a0 + a)) (W (c0 + c))))) ∧ w.grownBy w' (some b) := by
  have hl := look_has hown hkl hyes
  have r1 := run_cadd (W a0) (W c0) (W a) (W c) (W (a0 + a)) (W (c0 + c)) (add_W a0 a (by omega) (by omega) (by omega)) (add_W c0 c (by omega) (by omega) (by omega)) w
  have r2 := fun w => run_real (W (a0 + a)) (W (c0 + c)) w
  have r3 := fun w => run_imag (W (a0 + a)) (W (c0 + c)) w
  have o1 := ord (a0 + a) 4503599627370496 (by omega) (by omega) _ rfl
  have o2 := ord (c0 + c) 4503599627370496 (by omega) (by omega) _ rfl
  rw [W_max] at o1 o2
  have g1 : (FloatKind.f64.format.order (W (a0 + a)) 4841369599423283200 == some Ordering.gt) = false := by rw [o1]; exact cmp_le ha1
  have g2 : (FloatKind.f64.format.order (W (c0 + c)) 4841369599423283200 == some Ordering.gt) = false := by rw [o2]; exact cmp_le hc1
  have HO := Lib.hid hown
  have HK := Lib.hid hkl
  clear ha hc hown hyes o1 o2 hkl ha1 hc1
  generalize W (a0 + a) = x' at *
  generalize W (c0 + c) = y' at *
  generalize W a = x at *
  generalize W c = y at *
  generalize W a0 = x0 at *
  generalize W c0 = y0 at *
  go_enter Tryd.func27, Tryd.ntmps27
  go_wp2_with (first
    | (at_mapUpdate; refine wpList_mapUpdate_own _ rfl _ _ _ 62 rfl 9 32 law9 Tryd.underlying62 RH b Q D rfl HO.out (by unfold maxLen; omega) _ _ kl rfl rfl HK.out (.held (.complex .f64 x' y')) [] rfl ?_; intro w2 hown2 hgrow2))
  go_ret
  exact ⟨rfl, hown2, hgrow2⟩
set_option maxRecDepth 20000 in
theorem adds_over (a0 c0 : Nat) (h0 : a0 ≤ 4503599627370496) (h1 : c0 ≤ 4503599627370496) (hyes : ∀ z, D.atKey kl z = .held (.complex .f64 (W a0) (W c0))) (hv : ¬ (a0 + a ≤ 4503599627370496 ∧ c0 + c ≤ 4503599627370496)) : Calls Tryd.prog 27 #[.map (some b), .string s, .complex .f64 (W a) (W c)] w fun e w' => e = .returned (.int .i64 9) ∧ w = w' := by
  have hl := look_has hown hkl hyes
  obtain ⟨x', e1, -, o1⟩ := add_any a0 a h0 ha
  obtain ⟨y', e2, -, o2⟩ := add_any c0 c h1 hc
  have r1 := run_cadd (W a0) (W c0) (W a) (W c) x' y' e1 e2 w
  have r2 := fun w => run_real x' y' w
  have r3 := fun w => run_imag x' y' w
  by_cases hx : a0 + a ≤ 4503599627370496
  · have hy : 4503599627370496 < c0 + c := by omega
    have g1 : (FloatKind.f64.format.order x' 4841369599423283200 == some Ordering.gt) = false := by rw [o1]; exact cmp_le hx
    have g2 : (FloatKind.f64.format.order y' 4841369599423283200 == some Ordering.gt) = true := by rw [o2]; exact cmp_gt hy
    clear ha hc hown hyes o1 o2 hkl h0 h1 hv hx hy e1 e2
    generalize W a = x at *
    generalize W c = y at *
    generalize W a0 = x0 at *
    generalize W c0 = y0 at *
    go_enter Tryd.func27, Tryd.ntmps27
    go_wp2
    go_ret
    exact ⟨rfl, rfl⟩
  · have g1 : (FloatKind.f64.format.order x' 4841369599423283200 == some Ordering.gt) = true := by rw [o1]; exact cmp_gt (by omega)
    clear ha hc hown hyes o1 o2 hkl h0 h1 hv hx e1 e2
    generalize W a = x at *
    generalize W c = y at *
    generalize W a0 = x0 at *
    generalize W c0 = y0 at *
    go_enter Tryd.func27, Tryd.ntmps27
    go_wp2
    go_ret
    exact ⟨rfl, rfl⟩
end
end Go.Proofs.YtgoeiejdcpoaaaaDoor
