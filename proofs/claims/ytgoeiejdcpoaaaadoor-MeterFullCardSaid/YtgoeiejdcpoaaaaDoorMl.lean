/-
  Walk: stevedorelaw04.MeterFull returns true. No condition beyond the theorems' own hypotheses.
-/
import Derived.Test.YtgoeiejdcpoaaaaDoorMj
import Derived.Test.YtgoeiejdcpoaaaaDoorMk
import Derived.Laws.BytesArg
namespace Go.Proofs.YtgoeiejdcpoaaaaDoor
open Go.RowKit Go.Maps Fl

theorem join_nil (l : Value) (w : World) : Calls Tryd.prog 14 #[.pointer none, l] w fun e w' => e = .returned (.int .i64 1) ∧ w = w' := by
  go_enter Tryd.func14, Tryd.ntmps14
  go_wp2
  go_ret
  exact ⟨rfl, rfl⟩
theorem row_pos {w : World} {base E size n : Nat} {v : Value} {xs : List Value} (h : w.ownsRow base E size v n xs) (hn : 0 < n) : ∃ g cap, v = .slice (some ⟨g, 0, none⟩) n cap := by
  rcases h.2 with ⟨_, h0⟩ | ⟨g, cap, cur, rfl, _⟩
  · omega
  · exact ⟨g, cap, rfl⟩
theorem is_00 (w : World) : Calls Tryd.prog 12 #[.complex .f64 0 0, .int .i64 0, .int .i64 0] w fun e w' => e = .returned (.bool true) ∧ w = w' := by
  have h := is_any 0 0 0 0 (by omega) (by omega) (by omega) (by omega) w
  rw [W_zero] at h
  exact h
theorem aa_in (k : Nat) (h0 : 0 < k) (h : k ≤ 64) : (([97, 97], 1, 2) : Ent) ∈ fullL k := by
  have : ∀ k, k < 65 → 0 < k → (fullL k).contains (([97, 97], 1, 2) : Ent) = true := by decide +kernel
  simpa using this k (by omega) h0
theorem nm_str (i : Nat) (h : i < 84) : (strOfNums [97 + (i : Int) % 26, 97 + (i : Int) / 26]).data.toList = nm i := by
  have e1 : (97 + (i : Int) % 26) = ((97 + i % 26 : Nat) : Int) := by omega
  have e2 : (97 + (i : Int) / 26) = ((97 + i / 26 : Nat) : Int) := by omega
  rw [e1, e2]
  rfl
theorem conv_str (i : Nat) (w : World) : (convert 51 9 (.slice (some ⟨w.heap.size, 0, none⟩) 2 2)).run Tryd.prog (w.alloc (.cells #[.int .u8 (97 + (i : Int) % 26), .int .u8 (97 + (i : Int) / 26)] 5)) = .ok (.string (strOfNums [97 + (i : Int) % 26, 97 + (i : Int) / 26])) (w.alloc (.cells #[.int .u8 (97 + (i : Int) % 26), .int .u8 (97 + (i : Int) / 26)] 5)) := by
  refine run_convert_bytes_arg _ 51 5 Tryd.underlying51 Tryd.underlying5 w.heap.size 0 2 2 _ rfl (fun j hj => ?_) 9 Tryd.underlying9
  have : j = 0 ∨ j = 1 := by omega
  rcases this with rfl | rfl <;> simp
set_option maxHeartbeats 3200000 in
set_option maxRecDepth 20000 in
theorem full_any (c : Int) (c0 : 0 ≤ c) (c1 : c ≤ 255) (w : World) : Calls Tryd.prog 6 #[.int .u8 c] w fun e w' => e = .returned (.bool true) ∧ Below w.heap.size w w' := by
  go_enter Tryd.func6, Tryd.ntmps6
  go_wp2_with (first
    | (go_at_call 17; refine (new_any _).mono ?_; rintro e w1 ⟨rfl, hM1, hb1⟩; have HM1 := Lib.hid hM1; have HB1 := Lib.hid hb1; clear hM1 hb1))
  obtain ⟨n, hn, hn1⟩ : ∃ n : Nat, c % 84 = (n : Int) ∧ n < 84 := ⟨(c % 84).toNat, by omega, by omega⟩
  rw [hn]
  clear hn c0 c1
  go_loopw [5] (fun v wr => ∃ i k : Nat, i ≤ n ∧ v = .int .i64 i ∧ Hid (k = min i 64) ∧ Hid (MeterAt wr k (w.heap.size + 1) w.heap.size (fullL k)) ∧ Hid (Below w.heap.size w wr))
    (fun v _ => n - (intOf v).toNat)
  case atStart => exact ⟨0, 0, by omega, rfl, rfl, HM1.out, HB1.out⟩
  case round =>
    obtain ⟨i, k, hi, rfl, hk, hM, hB⟩ := hrel
    by_cases hlt : i < n
    · have hi1 : (i : Int) < (n : Int) := by omega
      have hi2 : (i : Int) ≤ 83 := by omega
      have hi3 : (0 : Int) ≤ (i : Int) := by omega
      by_cases hf : i < 64
      · obtain rfl : i = k := by have := hk.out; omega
        have hf' : (i : Int) < 64 := by omega
        have hcv := fun w => conv_str i w
        have hs := nm_str i (by omega)
        have HN := Lib.hid hs
        clear hs
        generalize strOfNums [97 + (i : Int) % 26, 97 + (i : Int) / 26] = str at *
        have HM2 := fun o => Lib.hid (hM.out.kept ((Below.refl _ wr).alloc (Nat.le_refl _) o))
        go_wp2_with (first
          | (go_at_call 18; refine (add_new i (w.heap.size + 1) w.heap.size (by omega) (fullL i) _ (HM2 _).out str (by rw [HN.out]; exact nm_may i (by omega)) 1 2 (by omega) (by omega) (by rw [HN.out, full_has i i (by omega) (by omega)]; simp) (by rw [full_len i (by omega)]; exact hf)).mono ?_; rintro e w3 ⟨rfl, hM3, ht3⟩; rw [HN.out] at hM3))
        go_roundw
        case rel => exact ⟨i + 1, i + 1, by omega, by go_num, by show i + 1 = min (i + 1) 64; omega, hM3, (hB.out.alloc hB.out.size _).trans (ht3.below (Nat.le_refl _) (hB.out.alloc hB.out.size _).size)⟩
        case measure => simp [intOf]; omega
      · obtain rfl : k = 64 := by have := hk.out; omega
        have hf' : decide ((i : Int) < 64) = false := by simp; omega
        have hcv := fun w => conv_str i w
        have hs := nm_str i (by omega)
        have HN := Lib.hid hs
        clear hs
        generalize strOfNums [97 + (i : Int) % 26, 97 + (i : Int) / 26] = str at *
        have HM2 := fun o => Lib.hid (hM.out.kept ((Below.refl _ wr).alloc (Nat.le_refl _) o))
        go_wp2_with (first
          | (go_at_call 18; refine (add_full 64 (w.heap.size + 1) w.heap.size (fullL 64) (by rw [full_len 64 (by omega)]; omega) _ (HM2 _).out str (by rw [HN.out]; exact nm_may i (by omega)) 1 2 (by omega) (by omega) (by rw [HN.out, full_has 64 i (by omega) (by omega)]; simp; omega) (by rw [full_len 64 (by omega)]; omega)).mono ?_; rintro e w3 ⟨rfl, hb3⟩))
        go_roundw
        case rel => exact ⟨i + 1, 64, by omega, by go_num, by show 64 = min (i + 1) 64; omega, (HM2 _).out.kept hb3, (hB.out.alloc hB.out.size _).trans (hb3.mono (hB.out.alloc hB.out.size _).size)⟩
        case measure => simp [intOf]; omega
    · obtain rfl : i = n := by omega
      clear hlt
      have hk64 : k ≤ 64 := by have := hk.out; omega
      have hmin : min (i : Int) 64 = (k : Int) := by have := hk.out; omega
      have hg := full_good k hk64
      have HA := Lib.hid (all_any k (w.heap.size + 1) w.heap.size (fullL k) hg)
      have HT := Lib.hid (total_any k (w.heap.size + 1) w.heap.size (fullL k) hg)
      rw [full_tot k hk64] at HT
      have HI := Lib.hid (is_any k (2 * k) k (2 * k) (by omega) (by omega) (by omega) (by omega))
      by_cases hk0 : k = 0
      · subst hk0
        go_wp2_with (first
          | (go_at_call 8; refine (works_any _).mono ?_; rintro e w9 ⟨rfl, hb9⟩; have HB9 := Lib.hid (HB4.out.trans (hb9.mono HB4.out.size)))
          | (go_at_call 19; have hq := HNIL; clear hq; refine (all_nil _).mono ?_; rintro e w' ⟨rfl, rfl⟩)
          | (go_at_call 14; refine (join_nil _ _).mono ?_; rintro e w' ⟨rfl, rfl⟩; have HB4 := Lib.hid (HB3.out.alloc HB3.out.size (.cells #[.pointer (some ⟨w.heap.size + 1, 0, none⟩)] 25)))
          | (go_at_call 20; have hq := HNIL; clear hq; refine (total_nil _).mono ?_; rintro e w' ⟨rfl, rfl⟩)
          | (go_at_call 12; have hq := HNIL; clear hq; refine (is_00 _).mono ?_; rintro e w' ⟨rfl, rfl⟩)
          | (go_at_call 13; refine (get_nil _ _).mono ?_; rintro e w' ⟨rfl, rfl⟩; have HNIL := Lib.hid trivial)
          | (go_at_call 18; refine (add_nil _ _ _ _).mono ?_; rintro e w' ⟨rfl, rfl⟩)
          | (go_at_call 12; refine (HI.out _).mono ?_; rintro e w' ⟨rfl, rfl⟩)
          | (go_at_call 20; refine (HT.out _ HM2.out).mono ?_; rintro e w3 ⟨rfl, hb3⟩; have HB3 := Lib.hid (HB2.out.trans (hb3.mono HB2.out.size)))
          | (go_at_call 19; refine (HA.out _ hM.out).mono ?_; rintro e w2 ⟨v, rfl, hrow, hnil, hb2⟩; obtain rfl := hnil.2 rfl; have HM2 := Lib.hid (hM.out.kept hb2); have HB2 := Lib.hid (hB.out.trans (hb2.mono hB.out.size)); clear hrow hnil hb2))
        go_ret
        exact ⟨rfl, HB9.out⟩
      · have hk1 : (0 : Int) < (k : Int) := by omega
        have hk2 : decide ((0 : Int) < (k : Int)) = true := by simp; omega
        have HAA := Lib.hid (aa_in k (by omega) hk64)
        go_wp2_with (first
          | (go_at_call 8; refine (works_any _).mono ?_; rintro e w9 ⟨rfl, hb9⟩; have HB9 := Lib.hid (HB5.out.trans (hb9.mono HB5.out.size)))
          | (go_at_call 19; have hq := HNIL; clear hq; refine (all_nil _).mono ?_; rintro e w' ⟨rfl, rfl⟩)
          | (go_at_call 14; refine (join_nil _ _).mono ?_; rintro e w' ⟨rfl, rfl⟩; have HB5 := Lib.hid (HB4.out.alloc HB4.out.size (.cells #[.pointer (some ⟨w.heap.size + 1, 0, none⟩)] 25)))
          | (go_at_call 20; have hq := HNIL; clear hq; refine (total_nil _).mono ?_; rintro e w' ⟨rfl, rfl⟩)
          | (go_at_call 12; have hq := HNIL; clear hq; refine (is_00 _).mono ?_; rintro e w' ⟨rfl, rfl⟩)
          | (go_at_call 13; refine (get_nil _ _).mono ?_; rintro e w' ⟨rfl, rfl⟩; have HNIL := Lib.hid trivial)
          | (go_at_call 18; have hq := HB4; clear hq; refine (add_nil _ _ _ _).mono ?_; rintro e w' ⟨rfl, rfl⟩)
          | (go_at_call 18; refine (add_more k (w.heap.size + 1) w.heap.size (by omega) (fullL k) hg _ HM3.out ⟨#[97, 97]⟩ rfl 1 0 (by omega) (by omega) 1 2 HAA.out (by omega) (by omega)).mono ?_; rintro e w4 ⟨rfl, hM4, ht4⟩; have HB4 := Lib.hid (HB3.out.trans (ht4.below (Nat.le_refl _) HB3.out.size)); clear hM4 ht4)
          | (go_at_call 12; refine (HI.out _).mono ?_; rintro e w' ⟨rfl, rfl⟩)
          | (go_at_call 20; refine (HT.out _ HM2.out).mono ?_; rintro e w3 ⟨rfl, hb3⟩; have HM3 := Lib.hid (HM2.out.kept hb3); have HB3 := Lib.hid (HB2.out.trans (hb3.mono HB2.out.size)); clear hb3)
          | (go_at_call 19; refine (HA.out _ hM.out).mono ?_; rintro e w2 ⟨v, rfl, hrow, hnil, hb2⟩; have HM2 := Lib.hid (hM.out.kept hb2); have HB2 := Lib.hid (hB.out.trans (hb2.mono hB.out.size)); obtain ⟨g, cap, rfl⟩ := row_pos (by rw [full_len k hk64] at hrow; exact hrow) (by omega : 0 < k); clear hrow hnil hb2))
        go_ret
        exact ⟨rfl, HB9.out⟩
end Go.Proofs.YtgoeiejdcpoaaaaDoor
