/-
  The walk of stevedorelaw23.TableFull: it returns true. Part of the proof of TableFull. No condition beyond the theorems' own hypotheses.
-/
import Derived.Test.YtmphajjaepahkaaT
import Derived.Test.YtmphajjaepahkaaL
namespace Go.Proofs.Ytmphajjaepahkaa
open Go.RowKit Go.Maps

set_option maxHeartbeats 6400000 in
set_option maxRecDepth 20000 in
theorem full_any (c r : Int) (c0 : 0 ≤ c) (c1 : c ≤ 65535) (r0 : 0 ≤ r) (r1 : r ≤ 65535) (w : World) : Calls Try.prog 3 #[.int .u16 c, .int .u16 r] w fun e w' => e = .returned (.bool true) ∧ Below w.heap.size w w' := by
  go_enter Try.func3, Try.ntmps3
  go_wp2_with (first
    | (go_at_call 4; refine (new_tab _).mono ?_; rintro e w1 ⟨rfl, hT1, hb1⟩; have HT1 := Lib.hid hT1; have HB1 := Lib.hid hb1; clear hT1 hb1))
  obtain ⟨n, hn, hn1⟩ : ∃ n : Nat, c % 1034 = (n : Int) ∧ n < 1034 := ⟨(c % 1034).toNat, by omega, by omega⟩
  obtain ⟨m, hm, hm1⟩ : ∃ m : Nat, r % 1034 = (m : Int) ∧ m < 1034 := ⟨(r % 1034).toNat, by omega, by omega⟩
  rw [hn, hm]
  clear hn hm c0 c1 r0 r1
  go_loopw [8] (fun v wr => ∃ i k : Nat, i ≤ n ∧ v = .int .i64 i ∧ Hid (k = min i 1024) ∧ Hid (∃ D, TabAt wr i w.heap.size D (.map []) k 0 ∧ Cnt D k 0) ∧ Hid (Below w.heap.size w wr))
    (fun v _ => n - (intOf v).toNat)
  case atStart => exact ⟨0, 0, by omega, rfl, rfl, ⟨_, HT1.out, cnt0⟩, HB1.out⟩
  case round =>
    obtain ⟨i, k, hi, rfl, hk, hTk, hBk⟩ := hrel
    by_cases hlt : i < n
    · have hi1 : (i : Int) < (n : Int) := by omega
      have hi2 : (i : Int) ≤ 1033 := by omega
      have hi3 : (0 : Int) ≤ (i : Int) := by omega
      obtain ⟨D, hT, hC⟩ := hTk.out
      have HT := Lib.hid hT
      have HC := Lib.hid hC
      clear hT hC
      by_cases hf : i < 1024
      · obtain rfl : i = k := by have := hk.out; omega
        have hf' : (i : Int) < 1024 := by omega
        go_wp2_with (first
          | (go_at_call 5; refine (put_new i w.heap.size (by omega) D _ i 0 _ HT2.out (by omega) (by omega) ((i : Int) + 1) (by omega) 1 1 2 i (by omega) (by omega) (by omega) (by omega) (by omega) (by omega) (by omega) (by omega) (keyP 1 i) (key_pv 1 i (by omega) (by omega) (by omega) (by omega)) (HC.out.no1 (by omega) (by omega) i (Nat.le_refl _) (by omega) _)).mono ?_; rintro e w3 ⟨rfl, hT3, hF3⟩)
          | (go_at_call 6; refine (pair_any 1 i _).mono ?_; rintro e w2 ⟨rfl, hb2⟩
             have HT2 := Lib.hid (HT.out.kept hb2)
             have HB2 := Lib.hid (hBk.out.trans (hb2.mono hBk.out.size))))
        go_roundw
        case rel =>
          exact ⟨i + 1, i + 1, by omega, by go_num, by show i + 1 = min (i + 1) 1024; omega, ⟨_, hT3, HC.out.put (by omega) (by omega) (shN_lt _ _ _ _)⟩, HB2.out.trans (hF3.toBelow HB2.out.size)⟩
        case measure => simp [intOf]; omega
      · obtain rfl : k = 1024 := by have := hk.out; omega
        have hf' : decide ((i : Int) < 1024) = false := by simp; omega
        go_wp2_with (first
          | (go_at_call 5; refine (put_full i w.heap.size (by omega) D _ (1024 : Nat) 0 _ HT2.out (by omega) (by omega) ((i : Int) + 1) (by omega) 1 1 2 i (by omega) (by omega) (by omega) (by omega) (by omega) (by omega) (by omega) (by omega) (keyP 1 i) (key_pv 1 i (by omega) (by omega) (by omega) (by omega)) (HC.out.no1 (by omega) (by omega) i (by omega) (by omega) _)).mono ?_; rintro e w3 ⟨rfl, hT3, hF3⟩)
          | (go_at_call 6; refine (pair_any 1 i _).mono ?_; rintro e w2 ⟨rfl, hb2⟩
             have HT2 := Lib.hid (HT.out.kept hb2)
             have HB2 := Lib.hid (hBk.out.trans (hb2.mono hBk.out.size))))
        go_roundw
        case rel =>
          exact ⟨i + 1, 1024, by omega, by go_num, by show 1024 = min (i + 1) 1024; omega, ⟨_, hT3.more (by omega), HC.out⟩, HB2.out.trans (hF3.toBelow HB2.out.size)⟩
        case measure => simp [intOf]; omega
    · obtain rfl : i = n := by omega
      clear hlt
      have hk' := hk.out
      have HTn := hTk
      have HBn := hBk
      clear hTk hBk HT1 HB1 hk
      go_wp2
      have hkk : k ≤ 1024 := by omega
      have HK := Lib.hid hk'
      clear hk'
      go_loopw [10] (fun v wr => ∃ j l : Nat, j ≤ m ∧ v = .int .i64 j ∧ Hid (l = min j 1024) ∧ Hid (∃ D, TabAt wr (i + j) w.heap.size D (.map []) k l ∧ Cnt D k l) ∧ Hid (Below w.heap.size w wr))
        (fun v _ => m - (intOf v).toNat)
      case atStart => exact ⟨0, 0, by omega, rfl, rfl, HTn.out, HBn.out⟩
      case round =>
        obtain ⟨j, l, hj, rfl, hl, hTk, hBk⟩ := hrel
        clear HTn HBn
        by_cases hlt : j < m
        · have hj1 : (j : Int) < (m : Int) := by omega
          have hj2 : (j : Int) ≤ 1033 := by omega
          have hj3 : (0 : Int) ≤ (j : Int) := by omega
          obtain ⟨D, hT, hC⟩ := hTk.out
          have HT := Lib.hid hT
          have HC := Lib.hid hC
          clear hT hC
          by_cases hf : j < 1024
          · obtain rfl : j = l := by have := hl.out; omega
            have hf' : (j : Int) < 1024 := by omega
            go_wp2_with (first
              | (go_at_call 7; refine (rest_new (i + j) w.heap.size (by omega) D _ k j _ HT2.out (by omega) (by omega) 50 1 2 2 j (by omega) (by omega) (by omega) (by omega) (by omega) (by omega) (by omega) (by omega) (keyP 2 j) (key_pv 2 j (by omega) (by omega) (by omega) (by omega)) (HC.out.no2 (by omega) (by omega) j (Nat.le_refl _) (by omega) _)).mono ?_; rintro e w3 ⟨rfl, hT3, hF3⟩)
              | (go_at_call 6; refine (pair_any 2 j _).mono ?_; rintro e w2 ⟨rfl, hb2⟩
                 have HT2 := Lib.hid (HT.out.kept hb2)
                 have HB2 := Lib.hid (hBk.out.trans (hb2.mono hBk.out.size))))
            go_roundw
            case rel =>
              exact ⟨j + 1, j + 1, by omega, by go_num, by show j + 1 = min (j + 1) 1024; omega, ⟨_, hT3, HC.out.rest (by omega) (by omega) (shN_lt _ _ _ _)⟩, HB2.out.trans (hF3.toBelow HB2.out.size)⟩
            case measure => simp [intOf]; omega
          · obtain rfl : l = 1024 := by have := hl.out; omega
            have hf' : decide ((j : Int) < 1024) = false := by simp; omega
            go_wp2_with (first
              | (go_at_call 7; refine (rest_full (i + j) w.heap.size (by omega) D _ k (1024 : Nat) _ HT2.out (by omega) (by omega) 50 1 2 2 j (by omega) (by omega) (by omega) (by omega) (by omega) (by omega) (by omega) (by omega) (keyP 2 j) (key_pv 2 j (by omega) (by omega) (by omega) (by omega)) (HC.out.no2 (by omega) (by omega) j (by omega) (by omega) _)).mono ?_; rintro e w3 ⟨rfl, hT3, hF3⟩)
              | (go_at_call 6; refine (pair_any 2 j _).mono ?_; rintro e w2 ⟨rfl, hb2⟩
                 have HT2 := Lib.hid (HT.out.kept hb2)
                 have HB2 := Lib.hid (hBk.out.trans (hb2.mono hBk.out.size))))
            go_roundw
            case rel =>
              exact ⟨j + 1, 1024, by omega, by go_num, by show 1024 = min (j + 1) 1024; omega, ⟨_, hT3.more (by omega), HC.out⟩, HB2.out.trans (hF3.toBelow HB2.out.size)⟩
            case measure => simp [intOf]; omega
        · obtain rfl : j = m := by omega
          clear hlt
          have hll : l ≤ 1024 := by have := hl.out; omega
          obtain ⟨D, hT, hC⟩ := hTk.out
          have c9 : wr.cell? ⟨w.heap.size + 1, 9, none⟩ = some (.int .i64 k) := hT.cell 9
          have c10 : wr.cell? ⟨w.heap.size + 1, 10, none⟩ = some (.int .i64 l) := hT.cell 10
          have HT := Lib.hid hT
          have HC := Lib.hid hC
          clear hT hC
          have hk1 : min (i : Int) 1024 = (k : Int) := by have := HK.out; omega
          have hl1 : min (j : Int) 1024 = (l : Int) := by have := hl.out; omega
          have hO : ∀ W, TabAt W (i + j) w.heap.size D (.map []) k l → Calls Try.prog 10 #[.pointer (some ⟨w.heap.size + 1, 0, none⟩), .int .i64 50] W fun e w' => e = .returned (.int .i64 l) ∧ TF w.heap.size W w' := by
            intro W hW
            obtain ⟨es, hD, hks, hcs⟩ := HC.out
            obtain rfl : D = fun s => .map (es s) := funext hD
            have := old_any (i + j) w.heap.size 50 k l es (.map []) W hW (fun s _ => Cnt.shaped hkk hll hks s) _ (fun _ => rfl) (by rw [hcs]; omega) (by omega)
            rw [hcs] at this
            exact this
          have HO := Lib.hid hO
          clear hO
          go_wp2_with (first
            | (go_at_call 8; have hq := HNIL; clear hq; refine (conns_nil _).mono ?_; rintro e w9 ⟨rfl, hb⟩; have HB := Lib.hid (HB.out.trans (hb.mono HB.out.size)); clear hb)
            | (go_at_call 9; have hq := HNIL; clear hq; refine (rests_nil _).mono ?_; rintro e w9 ⟨rfl, hb⟩; have HB := Lib.hid (HB.out.trans (hb.mono HB.out.size)); clear hb)
            | (go_at_call 10; have hq := HNIL; clear hq; refine (old_nil _ _).mono ?_; rintro e w9 ⟨rfl, hb⟩; have HB := Lib.hid (HB.out.trans (hb.mono HB.out.size)); clear hb)
            | (go_at_call 11; have hq := HNIL; clear hq; refine (find_nil _ _ _ _ _ _ _).mono ?_; rintro e w9 ⟨rfl, hb⟩; have HB := Lib.hid (HB.out.trans (hb.mono HB.out.size)); clear hb)
            | (go_at_call 5; have hq := HNIL; clear hq; refine (put_nil _ _ _ _ _ _).mono ?_; rintro e w9 ⟨rfl, hb⟩; have HB := Lib.hid (HB.out.trans (hb.mono HB.out.size)); clear hb)
            | (go_at_call 7; have hq := HNIL; clear hq; refine (rest_nil _ _ _ _ _ _).mono ?_; rintro e w9 ⟨rfl, hb⟩; have HB := Lib.hid (HB.out.trans (hb.mono HB.out.size)); clear hb)
            | (go_at_call 12; have hq := HNIL; clear hq; refine (listen_nil _ _ _ _).mono ?_; rintro e w9 ⟨rfl, hb⟩; have HB := Lib.hid (HB.out.trans (hb.mono HB.out.size)); clear hb)
            | (go_at_call 6; have hq := HNIL; clear hq; refine (pair_any _ _ _).mono ?_; rintro e w9 ⟨rfl, hb⟩; have HB := Lib.hid (HB.out.trans (hb.mono HB.out.size)); clear hb)
            | (go_at_call 14; have hq := HNIL; clear hq; refine (works_any _).mono ?_; rintro e w9 ⟨rfl, hb⟩; have HB := Lib.hid (HB.out.trans (hb.mono HB.out.size)); clear hb)
            | (go_at_call 13; have hq := HNIL; clear hq; refine (deaf_nil _ _).mono ?_; rintro e w9 ⟨rfl, hb⟩; have HB := Lib.hid ((HB.out.alloc HB.out.size _).trans (hb.mono (by have := HB.out.size; simp; omega))); clear hb)
            | (go_at_call 10; refine (HO.out _ HT3.out).mono ?_; rintro e w4 ⟨rfl, hF⟩; have HB := Lib.hid (HB3.out.trans (hF.toBelow HB3.out.size)); have HNIL := Lib.hid trivial; clear hF)
            | (go_at_call 9; refine (rests_any _ l _ d10).mono ?_; rintro e w3 ⟨rfl, hb3⟩; have HT3 := Lib.hid (HT2.out.kept hb3); have HB3 := Lib.hid (HB2.out.trans (hb3.mono HB2.out.size)); clear hb3)
            | (go_at_call 8; refine (conns_any _ k _ c9).mono ?_; rintro e w2 ⟨rfl, hb2⟩; have HT2 := Lib.hid (HT.out.kept hb2); have d10 : w2.cell? ⟨w.heap.size + 1, 10, none⟩ = some (.int .i64 l) := HT2.out.cell 10; have HB2 := Lib.hid (hBk.out.trans (hb2.mono hBk.out.size)); clear hb2))
          go_ret
          exact ⟨rfl, HB.out⟩
end Go.Proofs.Ytmphajjaepahkaa
