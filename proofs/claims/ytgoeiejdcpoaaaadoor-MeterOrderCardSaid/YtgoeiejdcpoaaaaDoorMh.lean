/-
  Walks: the law's is; (*Meter).Get; the methods of a nil meter; (*Meter).Add of parts or a name that may not be. Part of the proofs of the meter's statements. No condition beyond the theorems' own hypotheses.
-/
import Derived.Test.YtgoeiejdcpoaaaaDoorMg
namespace Go.Proofs.YtgoeiejdcpoaaaaDoor
open Go.RowKit Go.Maps Go.WideAt Go.WideShapes Go.Sort Fl

theorem ord_eq (a b : Nat) (ha : a < 2 ^ 53) (hb : b < 2 ^ 53) : (FloatKind.f64.format.order (W a) (W b) == some Ordering.eq) = decide (a = b) := by
  rw [ord a b ha hb _ rfl]
  cases hc : compare a b
  · have := Nat.compare_eq_lt.1 hc
    simp; omega
  · have := Nat.compare_eq_eq.1 hc
    simp [this]
  · have := Nat.compare_eq_gt.1 hc
    simp; omega
set_option maxRecDepth 20000 in
theorem is_any (x y a b : Nat) (hx : x < 2 ^ 53) (hy : y < 2 ^ 53) (ha : a < 2 ^ 53) (hb : b < 2 ^ 53) (w : World) : Calls Tryd.prog 12 #[.complex .f64 (W x) (W y), .int .i64 a, .int .i64 b] w fun e w' => e = .returned (.bool (decide (x = a) && decide (y = b))) ∧ w = w' := by
  have f1 := foi a
  have f2 := foi b
  have re := fun w => run_real (W x) (W y) w
  have im := fun w => run_imag (W x) (W y) w
  have o1 := ord_eq x a hx ha
  have o2 := ord_eq y b hy hb
  clear hx hy ha hb
  generalize decide (x = a) = p at *
  generalize decide (y = b) = q at *
  cases p
  · go_enter Tryd.func12, Tryd.ntmps12
    go_wp2
    go_ret
    exact ⟨rfl, rfl⟩
  · go_enter Tryd.func12, Tryd.ntmps12
    go_wp2
    go_ret
    exact ⟨by cases q <;> rfl, rfl⟩
theorem get_has (Q p b : Nat) (l : List Ent) (hg : Good l) (w : World) (hM : MeterAt w Q p b l) (e : Ent) (he : e ∈ l) : Calls Tryd.prog 13 #[.pointer (some ⟨p, 0, none⟩), .string ⟨e.1.toArray⟩] w fun e' w' => e' = .returned (val e) ∧ w = w' := by
  have hp := hM.cell
  have hl := look_val hg hM.own e he
  go_enter Tryd.func13, Tryd.ntmps13
  go_wp2
  go_ret
  exact ⟨rfl, rfl⟩
theorem add_nil (s : ByteArray) (a c : Int) (w : World) : Calls Tryd.prog 18 #[.pointer none, .string s, .int .i64 a, .int .i64 c] w fun e w' => e = .returned (.int .i64 1) ∧ w = w' := by
  go_enter Tryd.func18, Tryd.ntmps18
  go_wp2
  go_ret
  exact ⟨rfl, rfl⟩
theorem get_nil (s : ByteArray) (w : World) : Calls Tryd.prog 13 #[.pointer none, .string s] w fun e w' => e = .returned (.complex .f64 0 0) ∧ w = w' := by
  go_enter Tryd.func13, Tryd.ntmps13
  go_wp2
  go_ret
  exact ⟨rfl, rfl⟩
theorem all_nil (w : World) : Calls Tryd.prog 19 #[.pointer none] w fun e w' => e = .returned (.slice none 0 0) ∧ w = w' := by
  go_enter Tryd.func19, Tryd.ntmps19
  go_wp2
  go_ret
  exact ⟨rfl, rfl⟩
theorem total_nil (w : World) : Calls Tryd.prog 20 #[.pointer none] w fun e w' => e = .returned (.complex .f64 0 0) ∧ w = w' := by
  go_enter Tryd.func20, Tryd.ntmps20
  go_wp2_with (go_at_call 19; refine (all_nil _).mono ?_; rintro e w' ⟨rfl, rfl⟩)
  go_rounds 1
  go_ret
  exact ⟨rfl, rfl⟩
/-- Add of a name that may not be. -/
theorem add_name (p b : Nat) (s : ByteArray) (hm : mayB s.data.toList = false) (a c : Nat) (ha : a ≤ 4503599627370496) (hc : c ≤ 4503599627370496) (w : World) (hp : w.cell? ⟨p, 0, none⟩ = some (.map (some b))) :
    Calls Tryd.prog 18 #[.pointer (some ⟨p, 0, none⟩), .string s, .int .i64 a, .int .i64 c] w fun e w' => e = .returned (.int .i64 2) ∧ Below w.heap.size w w' := by
  have HM := Lib.hid hm
  have hr := fun w => run_eql_map_nil (P := Tryd.prog) w 62 9 32 (some b) Tryd.underlying62
  have M := Lib.hid (make_yes a c (by omega) (by omega))
  clear hm ha hc
  go_enter Tryd.func18, Tryd.ntmps18
  go_wp2_with (first
    | (go_at_call 29; refine (may_any _ _).mono ?_; rintro e w2 ⟨rfl, hb⟩; rw [HM.out])
    | (go_at_call 22; refine (M.out _).mono ?_; rintro e w' ⟨rfl, rfl⟩))
  go_ret
  exact ⟨rfl, hb⟩
theorem add_part (p b : Nat) (s : ByteArray) (a c : Int) (h : ¬ (0 ≤ a ∧ a ≤ 4503599627370496 ∧ 0 ≤ c ∧ c ≤ 4503599627370496)) (w : World) (hp : w.cell? ⟨p, 0, none⟩ = some (.map (some b))) :
    Calls Tryd.prog 18 #[.pointer (some ⟨p, 0, none⟩), .string s, .int .i64 a, .int .i64 c] w fun e w' => e = .returned (.int .i64 2) ∧ w = w' := by
  have hr := fun w => run_eql_map_nil (P := Tryd.prog) w 62 9 32 (some b) Tryd.underlying62
  have M := Lib.hid (make_no a c h)
  clear h
  go_enter Tryd.func18, Tryd.ntmps18
  go_wp2_with (go_at_call 22; refine (M.out _).mono ?_; rintro e w' ⟨rfl, rfl⟩)
  go_ret
  exact ⟨rfl, rfl⟩
end Go.Proofs.YtgoeiejdcpoaaaaDoor
