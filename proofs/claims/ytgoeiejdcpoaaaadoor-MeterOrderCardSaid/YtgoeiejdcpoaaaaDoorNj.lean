/-
  Walk: stevedorelaw04.MeterPlays returns true. No condition beyond the theorems' own hypotheses.
-/
import Derived.Test.YtgoeiejdcpoaaaaDoorNi
import Derived.Test.YtgoeiejdcpoaaaaDoorMj
namespace Go.Proofs.YtgoeiejdcpoaaaaDoor
open Go.RowKit Go.Maps Go.WideAt Go.WideShapes Go.Sort Fl

theorem is_zero (w : World) : Calls Tryd.prog 12 #[.complex .f64 0 0, .int .i64 0, .int .i64 0] w fun e w' => e = .returned (.bool true) ∧ w = w' := by
  have h := is_any 0 0 0 0 (by omega) (by omega) (by omega) (by omega) w
  rw [W_zero] at h
  exact h
theorem hasE_at {l : List Ent} {s : List UInt8} (h : hasE l s = true) : ∃ (i : Nat) (e : Ent), l[i]? = some e ∧ e.1 = s := by
  obtain ⟨e, he, hs⟩ := List.any_eq_true.1 h
  obtain ⟨i, hi⟩ := List.getElem?_of_mem he
  exact ⟨i, e, hi, by simpa using hs⟩
set_option maxHeartbeats 3200000 in
set_option maxRecDepth 20000 in
theorem plays_any (A : Option Addr) (cap : Nat) (l : List Stp) (hl : l.length ≤ maxLen) (hz : ∀ x ∈ l, x.1.size ≤ reachBytes) (s : ByteArray) (hs : s.size ≤ maxLen) (w : World) (hS : StepsAt w A l) :
    Calls Tryd.prog 3 #[.slice A l.length cap, .string s] w fun e w' => e = .returned (.bool true) ∧ Below w.heap.size w w' := by
  have HH := Lib.hid (heavy_any A cap l hl hz w hS)
  have HF := Lib.hid (fun (h : l.length ≤ 1000) => filled_any A cap l h w hS)
  have hgood := good_playL l
  have HAL := Lib.hid (fun B Q p b r v W h => alike_any B Q p b r v (playL l) hgood W h)
  have hlen := hgood.len
  have HG := Lib.hid hgood
  have HSZ := Lib.hid hs
  unfold maxLen at hs
  clear hl hz hS hgood
  by_cases hn : s.size ≤ 1024
  · have hn' : decide ((1024 : Int) < (s.size : Int)) = false := by simp; omega
    cases hh : hasE (playL l) s.data.toList
    · have HNO := Lib.hid hh
      clear hh hn
      go_enter Tryd.func3, Tryd.ntmps3
      go_wp2_with (first
        | (go_at_call 8; have hq := HX; clear hq; refine (works_any _).mono ?_; rintro e w9 ⟨rfl, hb9⟩; have HB9 := Lib.hid (HB3.out.trans (hb9.mono HB3.out.size)); clear hb9)
        | (go_at_call 12; refine (is_zero _).mono ?_; rintro e w' ⟨rfl, rfl⟩; have HX := Lib.hid trivial)
        | (go_at_call 13; refine (get_no _ _ _ _ _ HBO3.out.mt s HSZ.out HNO.out).mono ?_; rintro e w' ⟨rfl, rfl⟩)
        | (go_at_call 11; refine (at_no _ _ (playL l) (by omega) _ HBO3.out.rf s HNO.out).mono ?_; rintro e w' ⟨rfl, rfl⟩)
        | (go_at_call 10; refine (HAL.out _ _ _ _ _ _ _ HBO2.out).mono ?_; rintro e w3 ⟨rfl, hb3⟩; have HBO3 := Lib.hid (HBO2.out.kept hb3); have HB3 := Lib.hid (HB2.out.trans (hb3.mono HB2.out.size)); clear hb3)
        | (go_at_call 9; refine (HF.out (by omega)).mono ?_; rintro e w2 ⟨p, b, r, v, rfl, hbo, hb2⟩; have HBO2 := Lib.hid hbo; have HB2 := Lib.hid hb2; clear hbo hb2)
        | (go_at_call 8; refine (works_any _).mono ?_; rintro e w9 ⟨rfl, hb9⟩; have HB9 := Lib.hid hb9; clear hb9)
        | (go_at_call 7; refine HH.out.mono ?_; rintro e w' ⟨⟨b, rfl, hb⟩, rfl⟩; cases b; (have hl2 := hb rfl; clear hb)))
      all_goals go_ret
      all_goals exact ⟨rfl, HB9.out⟩
    · obtain ⟨i, e, hi, hes⟩ := hasE_at hh
      have HI := Lib.hid (fun W r v (hR : RefAt W r v (playL l)) => at_yes r v (playL l) (by omega) W hR s i e hi hes (fun j e' hj he' => by rw [← hes]; exact names_once HG.out.srt hi he' hj))
      have hi0 : (0 : Int) ≤ (i : Int) := by omega
      clear hh hn hi hes
      go_enter Tryd.func3, Tryd.ntmps3
      go_wp2_with (first
        | (go_at_call 8; have hq := HX; clear hq; refine (works_any _).mono ?_; rintro e w9 ⟨rfl, hb9⟩; have HB9 := Lib.hid (HB3.out.trans (hb9.mono HB3.out.size)); clear hb9)
        | (go_at_call 11; refine (HI.out _ _ _ HBO3.out.rf).mono ?_; rintro e w' ⟨rfl, rfl⟩; have HX := Lib.hid trivial)
        | (go_at_call 10; refine (HAL.out _ _ _ _ _ _ _ HBO2.out).mono ?_; rintro e w3 ⟨rfl, hb3⟩; have HBO3 := Lib.hid (HBO2.out.kept hb3); have HB3 := Lib.hid (HB2.out.trans (hb3.mono HB2.out.size)); clear hb3)
        | (go_at_call 9; refine (HF.out (by omega)).mono ?_; rintro e w2 ⟨p, b, r, v, rfl, hbo, hb2⟩; have HBO2 := Lib.hid hbo; have HB2 := Lib.hid hb2; clear hbo hb2)
        | (go_at_call 8; refine (works_any _).mono ?_; rintro e w9 ⟨rfl, hb9⟩; have HB9 := Lib.hid hb9; clear hb9)
        | (go_at_call 7; refine HH.out.mono ?_; rintro e w' ⟨⟨b, rfl, hb⟩, rfl⟩; cases b; (have hl2 := hb rfl; clear hb)))
      all_goals go_ret
      all_goals exact ⟨rfl, HB9.out⟩
  · have hn' : (1024 : Int) < (s.size : Int) := by omega
    clear hn
    go_enter Tryd.func3, Tryd.ntmps3
    go_wp2_with (first
      | (go_at_call 8; refine (works_any _).mono ?_; rintro e w9 ⟨rfl, hb9⟩; have HB9 := Lib.hid hb9; clear hb9)
      | (go_at_call 7; refine HH.out.mono ?_; rintro e w' ⟨⟨b, rfl, hb⟩, rfl⟩; cases b))
    all_goals go_ret
    all_goals exact ⟨rfl, HB9.out⟩
end Go.Proofs.YtgoeiejdcpoaaaaDoor
