/-
  Walk: (*Meter).All: the counters by rising names. Part of the proofs of the meter's statements. No condition beyond the theorems' own hypotheses.
-/
import Derived.Test.YtgoeiejdcpoaaaaDoorMe
import Derived.Test.YtgoeiejdcpoaaaaDoorBase
namespace Go.Proofs.YtgoeiejdcpoaaaaDoor
open Go.RowKit Go.Maps Go.WideAt Go.WideShapes Go.Sort Fl

def cnt (e : Ent) : List Value := [.string ⟨e.1.toArray⟩, .int .i64 e.2.1, .int .i64 e.2.2]
def cnts (l : List Ent) : List Value := l.flatMap cnt
theorem info49 : (Tryd.prog.info? 49).map (fun i => (i.zero, i.size, i.bytes)) = some (some (.agg #[.string ⟨#[]⟩, .int .i64 0, .int .i64 0]), 3, 32) := by kernel_rfl
theorem keys_any (mb : Option Nat) (w : World) : Calls Tryd.prog 31 #[.map mb] w fun e w' => e = .returned (.func (.func 39) #[] #[.pointer (some ⟨w.heap.size, 0, none⟩)]) ∧ w' = w.alloc (.cells #[.map mb] 62) :=
  (callsIn_wide (n := 5)).1 (Tryd.maps_Keys_31 mb w)
/-- slices.Sorted over the names: a new slice that holds them, rising. -/
theorem sorted_any (b Q : Nat) (l : List Ent) (hg : Good l) (w : World) (hown : w.ownsMap Tryd.prog 9 RH b Q (dat l)) :
    Calls Tryd.prog 30 #[.func (.func 39) #[] #[.pointer (some ⟨w.heap.size, 0, none⟩)]] (w.alloc (.cells #[.map (some b)] 62)) fun e w' => Below w.heap.size w w' ∧
      ((l = [] ∧ e = .returned (.slice none 0 0)) ∨ ∃ g cap, e = .returned (.slice (some ⟨g, 0, none⟩) l.length cap) ∧ ∀ (j : Nat) e', l[j]? = some e' → w'.cell? ⟨g, j, none⟩ = some (.string ⟨e'.1.toArray⟩)) := by
  have hl := hg.len
  refine ((callsIn_wide (n := 5)).1 (Tryd.slices_Sorted_keys_30_31 b Q (dat l) RH w hown (by rw [dat_size]; unfold maxLen; omega) (by rw [dat_size]; omega))).mono ?_
  rintro e w' ⟨v, ss, rfl, hp, hrow, hnil, hb⟩
  refine ⟨((Below.refl _ w).alloc (Nat.le_refl _) _).trans (hb.mono (by simp)), ?_⟩
  have hlen : ss.length = l.length := by rw [hp.length_eq]; show ((ents l).map _).length = _; simp [ents]
  rw [names_sorted l hg.srt ss hp, hlen] at hrow
  rcases hrow.2 with ⟨rfl, h0⟩ | ⟨g, cap, cur, rfl, hbase, hgb, r1, r2, r3, r4⟩
  · exact .inl ⟨List.eq_nil_of_length_eq_zero h0, rfl⟩
  · refine .inr ⟨g, cap, rfl, fun j e' hj => ?_⟩
    have hjl : j < l.length := (List.getElem?_eq_some_iff.1 hj).1
    have h4 := congrArg (fun t => t[j]?) r4
    simp only [Nat.mul_one, List.getElem?_take, hjl, if_true, List.getElem?_map, hj, Option.map_some] at h4
    have h5 : cur[j]? = some (.string ⟨e'.1.toArray⟩) := by simpa using h4
    simp [World.cell?, hgb, h5]
theorem look_val {w : World} {b Q : Nat} {l : List Ent} (hg : Good l) (hown : w.ownsMap Tryd.prog 9 RH b Q (dat l)) (e : Ent) (he : e ∈ l) : (Instr.lookup 62 (.map (some b)) (.string ⟨e.1.toArray⟩) false).run Tryd.prog w = .ok (val e) w := by
  have hn := hg.nam e he
  have hsz : (⟨e.1.toArray⟩ : ByteArray).size ≤ maxLen := by
    have h1 : e.1.length ≤ 32 := by
      unfold mayB at hn
      simp only [Bool.and_eq_true, decide_eq_true_eq] at hn
      exact hn.1.2
    show e.1.toArray.size ≤ maxLen
    simp
    unfold maxLen
    omega
  obtain ⟨v, ps, h1, h2⟩ := hown.lookup law9 Tryd.underlying62 (zero32 w) (zd := .held (.complex .f64 0 0)) (zp := []) rfl (key9 ⟨e.1.toArray⟩ hsz)
  have e1 : (⟨e.1.toArray⟩ : ByteArray).data.toList = e.1 := by simp
  rw [e1, dat_at l hg.srt e he] at h2
  simp [RH] at h2
  rw [h1, h2.1]
set_option maxHeartbeats 3200000 in
set_option maxRecDepth 20000 in
theorem all_any (Q p b : Nat) (l : List Ent) (hg : Good l) (w : World) (hM : MeterAt w Q p b l) :
    Calls Tryd.prog 19 #[.pointer (some ⟨p, 0, none⟩)] w fun e w' => ∃ v, e = .returned v ∧ w'.ownsRow w.heap.size 49 3 v l.length (cnts l) ∧ (v = .slice none 0 0 ↔ l = []) ∧ Below w.heap.size w w' := by
  have hp := hM.cell
  have hlen := hg.len
  obtain ⟨i0, hi, hz0, hz1, hz2⟩ := info_parts info49
  have HS := Lib.hid (sorted_any b Q l hg w hM.own)
  have HM := Lib.hid hM
  have HG := Lib.hid hg
  clear hM hg
  go_enter Tryd.func19, Tryd.ntmps19
  go_wp2_with (first
    | (go_at_call 30; refine HS.out.mono ?_; rintro e w1 ⟨hb1, hcase⟩; have HB1 := Lib.hid hb1; clear hb1; rcases hcase with ⟨rfl, rfl⟩ | ⟨g, cap, rfl, hc⟩)
    | (go_at_call 31; refine (keys_any _ _).mono ?_; rintro e w' ⟨rfl, rfl⟩))
  · go_rounds 1
    go_ret
    exact ⟨_, rfl, ⟨by simp [cnts], .inl ⟨rfl, rfl⟩⟩, by simp, HB1.out⟩
  · have HC := Lib.hid hc
    clear hc
    have HM1 := Lib.hid (HM.out.kept HB1.out)
    go_loopw [2, 17] (fun v i wr => ∃ k : Nat, k ≤ l.length ∧ i = .int .i64 k ∧ Hid (wr.ownsRow w1.heap.size 49 3 v k (cnts (l.take k))) ∧ Hid (v = .slice none 0 0 ↔ k = 0) ∧ Hid (Below w1.heap.size w1 wr))
      (fun _ i _ => l.length - (intOf i).toNat)
    case atStart => exact ⟨0, Nat.zero_le _, rfl, Lib.hid (World.ownsRow_nil _ _ _ _), Lib.hid (by simp), Lib.hid (Below.refl _ _)⟩
    case round =>
      obtain ⟨k, hk, rfl, hrow, hnil, hbk⟩ := hrel
      by_cases hlt : k < l.length
      · have hk1 : (k : Int) < (l.length : Int) := by omega
        have hk0 : (0 : Int) ≤ (k : Int) := by omega
        obtain ⟨e, he⟩ : ∃ e, l[k]? = some e := ⟨l[k], List.getElem?_eq_getElem hlt⟩
        have hmem : e ∈ l := List.mem_of_getElem? he
        have hfit := HG.out.fit e hmem
        have hcr := HC.out k e he
        have hck := (hbk.out.cell (p := ⟨g, k, none⟩) (World.block_lt_of_cell? _ _ hcr)).trans hcr
        have HMk := Lib.hid (HM1.out.kept hbk.out)
        have hpk := HMk.out.cell
        have hlk := look_val HG.out HMk.out.own e hmem
        have HR := Lib.hid (read_yes e.2.1 e.2.2 hfit.1 hfit.2)
        have HE := Lib.hid he
        clear hcr hmem hfit he
        unfold val at hlk
        go_wp2_with (first
          | (at_builtin; refine wp_app rfl _ _ 46 rfl w1.heap.size 49 i0 _ 3 32 Tryd.underlying46 hi hz0 hz1 hz2 rfl (by decide) _ k (cnts (l.take k)) rfl (hrow.out.alloc _) ⟨wr.heap.size, 0, none⟩ 1 1 (cnt e) rfl rfl (cells_new _ _ _ _ rfl) (by simp [Value.oneCell', cnt]) (k + 1) (cnts (l.take k) ++ cnt e) rfl (by omega) rfl (by unfold maxLen; omega) (by omega) (by have := hbk.out.size; simp; omega) ?_; intro g2 cap2 w2 hown2 hb2 hg2)
          | (go_at_call 21; refine (HR.out _).mono ?_; rintro e' w' ⟨rfl, rfl⟩))
        have hbw : Below w1.heap.size w1 w2 := (hbk.out.alloc hbk.out.size _).trans hb2
        have ht : cnts (l.take (k + 1)) = cnts (l.take k) ++ cnt e := by
          unfold cnts
          rw [List.take_add_one, HE.out, List.flatMap_append]
          simp
        clear hg2
        go_roundw
        case rel => exact ⟨k + 1, by omega, by go_num, Lib.hid (by rw [ht]; exact hown2), Lib.hid (by simp), Lib.hid hbw⟩
        case measure => simp [intOf]; omega
      · obtain rfl : k = l.length := by omega
        clear hlt
        go_wp2
        go_ret
        refine ⟨u2, rfl, ?_, ?_, HB1.out.trans (hbk.out.mono HB1.out.size)⟩
        · have := hrow.out
          rw [List.take_length] at this
          exact ownsRow_base_a this HB1.out.size
        · exact hnil.out.trans List.length_eq_zero_iff
end Go.Proofs.YtgoeiejdcpoaaaaDoor
