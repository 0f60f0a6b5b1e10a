/-
  Walk: the law's works returns true. Part of the proofs of the meter's statements. No condition beyond the theorems' own hypotheses.
-/
import Derived.Test.YtgoeiejdcpoaaaaDoorMi
namespace Go.Proofs.YtgoeiejdcpoaaaaDoor
open Go.RowKit Go.Maps Go.WideAt Go.WideShapes Go.Sort Fl

def rx (a c : Nat) : Ent := ([114, 120], a, c)
theorem good_rx (a c : Nat) (ha : a ≤ 4503599627370496) (hc : c ≤ 4503599627370496) : Good [rx a c] :=
  ⟨by simp [Srt], fun e he => by obtain rfl := List.mem_singleton.1 he; exact ⟨ha, hc⟩, fun e he => by obtain rfl := List.mem_singleton.1 he; rfl, by simp⟩
set_option maxHeartbeats 1600000 in
set_option maxRecDepth 20000 in
theorem works_any (w : World) : Calls Tryd.prog 8 #[] w fun e w' => e = .returned (.bool true) ∧ Below w.heap.size w w' := by
  go_enter Tryd.func8, Tryd.ntmps8
  go_wp2_with (first
    | (go_at_call 12; have hq := HB5; clear hq; refine (is_any 5 1 5 1 (by omega) (by omega) (by omega) (by omega) _).mono ?_; rintro e w' ⟨rfl, rfl⟩)
    | (go_at_call 20; refine (total_any 2 (w.heap.size + 1) w.heap.size [rx 5 1] (good_rx 5 1 (by omega) (by omega)) _ HM4.out).mono ?_; rintro e w5 ⟨rfl, hb5⟩; have HB5 := Lib.hid (HB4.out.trans (hb5.mono HB4.out.size)))
    | (go_at_call 12; refine (is_any 5 1 5 1 (by omega) (by omega) (by omega) (by omega) _).mono ?_; rintro e w' ⟨rfl, rfl⟩)
    | (go_at_call 22; refine (make_yes 5 1 (by omega) (by omega) _).mono ?_; rintro e w' ⟨rfl, rfl⟩)
    | (go_at_call 21; refine (read_yes 5 1 (by omega) (by omega) _).mono ?_; rintro e w' ⟨rfl, rfl⟩)
    | (go_at_call 13; refine (get_has 2 (w.heap.size + 1) w.heap.size [rx 5 1] (good_rx 5 1 (by omega) (by omega)) _ HM4.out (rx 5 1) (by simp)).mono ?_; rintro e w' ⟨rfl, rfl⟩)
    | (go_at_call 18; refine (add_name (w.heap.size + 1) w.heap.size ⟨#[]⟩ rfl 1 1 (by omega) (by omega) _ HM3.out.cell).mono ?_; rintro e w4 ⟨rfl, hb4⟩; have HM4 := Lib.hid (HM3.out.kept hb4); have HB4 := Lib.hid (HB3.out.trans (hb4.mono HB3.out.size)))
    | (go_at_call 18; refine (add_more 1 (w.heap.size + 1) w.heap.size (by omega) [rx 3 1] (good_rx 3 1 (by omega) (by omega)) _ HM2.out ⟨#[114, 120]⟩ rfl 2 0 (by omega) (by omega) 3 1 (by simp [rx]) (by omega) (by omega)).mono ?_; rintro e w3 ⟨rfl, hM3, ht3⟩; have HM3 := Lib.hid hM3; have HB3 := Lib.hid (HB2.out.trans (ht3.below (Nat.le_refl _) HB2.out.size)))
    | (go_at_call 18; refine (add_new 0 (w.heap.size + 1) w.heap.size (by omega) [] _ HM1.out ⟨#[114, 120]⟩ rfl 3 1 (by omega) (by omega) rfl (by simp)).mono ?_; rintro e w2 ⟨rfl, hM2, ht2⟩; have HM2 := Lib.hid hM2; have HB2 := Lib.hid (HB1.out.trans (ht2.below (Nat.le_refl _) HB1.out.size)))
    | (go_at_call 17; refine (new_any _).mono ?_; rintro e w1 ⟨rfl, hM1, hb1⟩; have HM1 := Lib.hid hM1; have HB1 := Lib.hid hb1))
  go_ret
  exact ⟨rfl, HB5.out⟩
end Go.Proofs.YtgoeiejdcpoaaaaDoor
