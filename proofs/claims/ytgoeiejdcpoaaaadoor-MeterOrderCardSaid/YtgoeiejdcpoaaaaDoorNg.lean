/-
  Walk: the law's filled: a meter and the document's, with all that could be added, are alike. Part of the proofs of the meter's statements. No condition beyond the theorems' own hypotheses.
-/
import Derived.Test.YtgoeiejdcpoaaaaDoorNf
import Derived.Deep.RegionHeld3
namespace Go.Proofs.YtgoeiejdcpoaaaaDoor
open Go.RowKit Go.Maps Go.WideAt Go.WideShapes Go.Sort Fl

theorem Both.alloc {B : Nat} {w : World} {Q p b r : Nat} {v : Value} {l : List Ent} (h : Both B w Q p b r v l) (o : Obj) : Both B (w.alloc o) Q p b r v l := h.kept ((Below.refl _ _).alloc (Nat.le_refl _) _)
theorem Both.drew {B : Nat} {w : World} {Q p b r : Nat} {v : Value} {l : List Ent} (h : Both B w Q p b r v l) : Both B w.drew Q p b r v l := h.kept (Below.refl _ _).drew
set_option maxHeartbeats 3200000 in
set_option maxRecDepth 20000 in
theorem filled_any (A : Option Addr) (cap : Nat) (l : List Stp) (hl : l.length ≤ 1000) (w : World) (hS : StepsAt w A l) :
    Calls Tryd.prog 9 #[.slice A l.length cap] w fun e w' => ∃ p b r v, e = .returned (.tuple #[.pointer (some ⟨p, 0, none⟩), .pointer (some ⟨r, 0, none⟩), .bool true]) ∧ Both w.heap.size w' l.length p b r v (playL l) ∧ Below w.heap.size w w' := by
  have HS := Lib.hid hS
  clear hS
  go_enter Tryd.func9, Tryd.ntmps9
  go_wp2_with (first
    | (go_at_call 17; refine (new_any _).mono ?_; rintro e w1 ⟨rfl, hM1, hb1⟩; have HM1 := Lib.hid hM1; have HB1 := Lib.hid hb1; clear hM1 hb1))
  go_loopw [7] (fun i wr => ∃ (k : Nat) (v : Value), k ≤ l.length ∧ i = .int .i64 k ∧ Hid (Both w.heap.size wr k (w.heap.size + 1) w.heap.size w1.heap.size v (playL (l.take k))) ∧ Hid (Below w.heap.size w wr))
    (fun i _ => l.length - (intOf i).toNat)
  case atStart =>
    have hb0 := (Below.refl w1.heap.size w1).alloc (Nat.le_refl _) (.cells #[.slice none 0 0] 58 (0, 0))
    refine ⟨0, .slice none 0 0, Nat.zero_le _, rfl, Lib.hid ⟨HM1.out.kept hb0, ⟨?_, none_own _ _, fun _ => rfl⟩, by omega, Nat.le_refl _, HB1.out.size, fun g hg => by simp [Value.ownBlock] at hg⟩, Lib.hid (HB1.out.trans (hb0.mono HB1.out.size))⟩
    have := World.alloc_heap_new w1 (.cells #[.slice none 0 0] 58 (0, 0))
    simpa using this
  case round =>
    obtain ⟨k, v, hk, rfl, hB, hb⟩ := hrel
    by_cases hlt : k < l.length
    · have hk1 : (k : Int) < (l.length : Int) := by omega
      have hk0 : (0 : Int) ≤ (k : Int) := by omega
      obtain ⟨x, hx⟩ : ∃ e, l[k]? = some e := ⟨l[k], List.getElem?_eq_getElem hlt⟩
      obtain ⟨bS, off, rfl, hbS, z0, z1, z2⟩ := HS.out.at_ k x hx
      have hup : ∀ W, Below w.heap.size w W → W.cell? ⟨bS, off + k * 3, none⟩ = some (.string x.1) ∧ W.cell? ⟨bS, off + k * 3 + 1, none⟩ = some (.int .i64 x.2.1) ∧ W.cell? ⟨bS, off + k * 3 + 2, none⟩ = some (.int .i64 x.2.2) := fun W hW =>
        ⟨(hW.cell (p := ⟨bS, _, none⟩) hbS).trans z0, (hW.cell (p := ⟨bS, _, none⟩) hbS).trans z1, (hW.cell (p := ⟨bS, _, none⟩) hbS).trans z2⟩
      obtain ⟨s0, s1, s2⟩ := hup wr hb.out
      have HUP := Lib.hid hup
      clear z0 z1 z2 hup
      have hstr := HS.out.str x (List.mem_of_getElem? hx)
      have HPT := Lib.hid (playL_take l k x hx)
      have hG := good_playL (l.take k)
      have HA := Lib.hid (madd_any k (w.heap.size + 1) w.heap.size (by omega) (playL (l.take k)) hG wr.drew hB.out.drew.mt x.1 x.2.1 x.2.2)
      have HR := Lib.hid (fun W v hR => radd_any w1.heap.size v (playL (l.take k)) hG W hR x.1 hstr x.2.1 x.2.2)
      clear hx hG hstr
      generalize addL (playL (l.take k)) x.1.data.toList x.2.1 x.2.2 = res at *
      go_wp2_with fail
      go_region_held3 (fun w' => w'.cell? ⟨bS, off + k * 3, none⟩ = some (.string x.1) ∧ w'.cell? ⟨bS, off + k * 3 + 1, none⟩ = some (.int .i64 x.2.1) ∧ w'.cell? ⟨bS, off + k * 3 + 2, none⟩ = some (.int .i64 x.2.2))
        (first | exact ⟨s0, s1, s2⟩ | exact hk3 | exact hk4)
        (first
          | (go_at_call 23; refine (HR.out _ _ HR3.out).mono ?_; rintro e w4 ⟨rfl, v4, hR4, hF4⟩; have HST := Lib.hid (hB.out.drew.step hb.out.size HT3.out HM3.out hR4 hF4); have HB4 := Lib.hid (hb.out.drew.trans HST.out.2); have hk4 := HUP.out w4 HB4.out; clear hR4 hF4)
          | (go_at_call 18; refine HA.out.mono ?_; rintro e w3 ⟨rfl, hM3, ht3⟩; have HT3 := Lib.hid ht3; have HM3 := Lib.hid hM3; have hk3 := HUP.out w3 (hb.out.drew.trans (ht3.below (Nat.le_refl _) hb.out.size)); have HR3 := Lib.hid (hB.out.drew.ref_turned ht3); clear hM3 ht3))
      go_wp2
      go_roundw
      case rel => exact ⟨k + 1, v4, by omega, by go_num, Lib.hid (by rw [HPT.out]; exact HST.out.1), HB4⟩
      case measure => simp [intOf]; omega
    · obtain rfl : k = l.length := by omega
      clear hlt
      go_wp2
      refine bodyPost_ret (results_tmp3 rfl _ _ _) rfl ?_
      refine ⟨w.heap.size + 1, w.heap.size, w1.heap.size, v, rfl, ?_, hb.out⟩
      have := hB.out
      rwa [List.take_length] at this
end Go.Proofs.YtgoeiejdcpoaaaaDoor
