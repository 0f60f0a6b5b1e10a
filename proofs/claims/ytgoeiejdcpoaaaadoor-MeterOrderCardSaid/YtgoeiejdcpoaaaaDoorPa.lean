/-
  Plain law of joining; walks: meter.adds is addL, slices.Contains of nil. Part of the proofs of the meter's statements. No condition beyond the theorems' own hypotheses.
-/
import Derived.Test.YtgoeiejdcpoaaaaDoorNh
namespace Go.Proofs.YtgoeiejdcpoaaaaDoor
open Go.RowKit Go.Maps Go.WideAt Go.WideShapes Go.Sort Fl

/-- Counters are added one by one, till one can't be. -/
def addsL (cur : List Ent) : List Ent → Int × List Ent
  | [] => (0, cur)
  | e :: r => if (addL cur e.1 e.2.1 e.2.2).1 = 0 then addsL (addL cur e.1 e.2.1 e.2.2).2 r else ((addL cur e.1 e.2.1 e.2.2).1, cur)
/-- What a meter is that others were joined to. -/
def joinL (l0 xs : List Ent) : List Ent := if (addsL l0 xs).1 = 0 then (addsL l0 xs).2 else l0
theorem addsL_append : ∀ (xs ys : List Ent) (l0 cur : List Ent), addsL l0 xs = (0, cur) → addsL l0 (xs ++ ys) = addsL cur ys
  | [], ys, l0, cur, h => by
    obtain rfl : l0 = cur := by simpa [addsL] using h
    rfl
  | e :: r, ys, l0, cur, h => by
    unfold addsL at h
    simp only [List.cons_append]
    rw [addsL]
    split at h
    · rename_i h0
      rw [if_pos h0]
      exact addsL_append r ys _ _ h
    · rename_i h0
      exact absurd (by simpa using congrArg Prod.fst h) h0
theorem addsL_snoc {xs l0 cur : List Ent} (e : Ent) (h : addsL l0 xs = (0, cur)) (h0 : (addL cur e.1 e.2.1 e.2.2).1 = 0) : addsL l0 (xs ++ [e]) = (0, (addL cur e.1 e.2.1 e.2.2).2) := by
  rw [addsL_append _ _ _ _ h]
  simp [addsL, h0]
theorem addsL_stop {xs l0 cur : List Ent} (e : Ent) (ys : List Ent) (h : addsL l0 xs = (0, cur)) (h0 : (addL cur e.1 e.2.1 e.2.2).1 ≠ 0) : (addsL l0 (xs ++ e :: ys)).1 = (addL cur e.1 e.2.1 e.2.2).1 := by
  rw [addsL_append _ _ _ _ h]
  simp [addsL, h0]
theorem good_addsL : ∀ (xs : List Ent) {l0 : List Ent}, Good l0 → Good (addsL l0 xs).2
  | [], l0, h => h
  | e :: r, l0, h => by
    unfold addsL
    split
    · exact good_addsL r (good_addL h _ _ _)
    · exact h
theorem good_joinL {l0 : List Ent} (xs : List Ent) (h : Good l0) : Good (joinL l0 xs) := by
  unfold joinL
  split
  · exact good_addsL xs h
  · exact h
theorem adds_any (b Q : Nat) (hQ : Q < 1000000) (l : List Ent) (hg : Good l) (w : World) (hown : w.ownsMap Tryd.prog 9 RH b Q (dat l)) (e : Ent) (hm : mayB e.1 = true) (ha : e.2.1 ≤ 4503599627370496) (hc : e.2.2 ≤ 4503599627370496) :
    Calls Tryd.prog 27 #[.map (some b), .string ⟨e.1.toArray⟩, .complex .f64 (Fl.W e.2.1) (Fl.W e.2.2)] w fun e' w' => e' = .returned (.int .i64 (addL l e.1 e.2.1 e.2.2).1) ∧ w'.ownsMap Tryd.prog 9 RH b (Q + 1) (dat (addL l e.1 e.2.1 e.2.2).2) ∧ w.grownBy w' (some b) := by
  have hlen := hg.len
  have hd : (⟨e.1.toArray⟩ : ByteArray).data.toList = e.1 := by simp
  have hk := key9 ⟨e.1.toArray⟩ (small (by rw [hd]; exact hm))
  rw [hd] at hk
  have hsame : w.grownBy w (some b) := ⟨rfl, rfl, rfl, Nat.le_refl _, fun _ _ _ => rfl⟩
  unfold addL
  rw [if_pos ⟨hm, by omega, by omega, by omega, by omega⟩]
  simp only [Int.toNat_natCast]
  split
  · rename_i hf
    have hno := find_no hf
    split
    · rename_i hl
      have h := adds_new b Q (dat l) w hown ⟨e.1.toArray⟩ _ hk e.2.1 e.2.2 ha hc hQ (by rw [dat_has]; exact hno) (by rw [dat_size]; exact hl)
      have e1 := dat_put (e.1, e.2.1, e.2.2) l
      unfold val at e1
      rw [e1] at h
      exact h
    · rename_i hl
      refine (adds_full b Q (dat l) w hown ⟨e.1.toArray⟩ _ hk e.2.1 e.2.2 ha hc (by rw [dat_has]; exact hno) (by rw [dat_size]; omega) (by rw [dat_size]; omega)).mono ?_
      rintro e' w' ⟨rfl, rfl⟩
      exact ⟨rfl, hown.mono (by omega), hsame⟩
  · rename_i x hf
    have hes : x.1 = e.1 := by have := List.find?_some hf; simpa using this
    have hmem := List.mem_of_find?_eq_some hf
    have hfit := hg.fit x hmem
    have hz : ∀ z, (dat l).atKey (.string e.1) z = .held (.complex .f64 (Fl.W x.2.1) (Fl.W x.2.2)) := fun z => by rw [← hes]; exact dat_at l hg.srt x hmem z
    split
    · rename_i hv
      have h := adds_more b Q (dat l) w hown ⟨e.1.toArray⟩ _ hk e.2.1 e.2.2 ha hc hQ x.2.1 x.2.2 hz hv.1 hv.2
      have e1 := dat_put (e.1, x.2.1 + e.2.1, x.2.2 + e.2.2) l
      unfold val at e1
      rw [e1] at h
      exact h
    · rename_i hv
      refine (adds_over b Q (dat l) w hown ⟨e.1.toArray⟩ _ hk e.2.1 e.2.2 ha hc x.2.1 x.2.2 hfit.1 hfit.2 hz hv).mono ?_
      rintro e' w' ⟨rfl, rfl⟩
      exact ⟨rfl, hown.mono (by omega), hsame⟩
/-- A slice of pointers. -/
def ptr (q : Option Nat) : Value := .pointer (q.map fun p => ⟨p, 0, none⟩)
structure PtrsAt (w : World) (g : Nat) (qs : List (Option Nat)) : Prop where
  lt : g < w.heap.size
  cell : ∀ k q, qs[k]? = some q → w.cell? ⟨g, k, none⟩ = some (ptr q)
theorem PtrsAt.kept {w w' : World} {g : Nat} {qs : List (Option Nat)} (h : PtrsAt w g qs) (hb : Below w.heap.size w w') : PtrsAt w' g qs :=
  ⟨Nat.lt_of_lt_of_le h.lt hb.size, fun k q hq => (hb.cell (p := ⟨g, k, none⟩) h.lt).trans (h.cell k q hq)⟩
set_option maxRecDepth 20000 in
set_option maxHeartbeats 800000 in
theorem index_no (g cap : Nat) (qs : List (Option Nat)) (hl : qs.length ≤ 1000) (w : World) (hP : PtrsAt w g qs) (hs : ∀ q ∈ qs, q ≠ none) :
    Calls Tryd.prog 34 #[.slice (some ⟨g, 0, none⟩) qs.length cap, .pointer none] w fun e w' => e = .returned (.int .i64 (-1)) ∧ w = w' := by
  have HP := Lib.hid hP
  have HS := Lib.hid hs
  clear hP hs
  have hnn : ∀ (a : Addr) (w : World), (binOp .eql 25 (.pointer none) (.pointer (some a))).run Tryd.prog w = .ok (.bool false) w := fun a w => by kernel_rfl
  go_enter Tryd.func34, Tryd.ntmps34
  go_wp2
  go_loop [8] (fun u => ∃ k : Nat, k ≤ qs.length ∧ u = .int .i64 k) (fun u => qs.length - (intOf u).toNat)
  case atStart => exact ⟨0, Nat.zero_le _, rfl⟩
  case round =>
    obtain ⟨k, hk, rfl⟩ := hrel
    by_cases hlt : k < qs.length
    · have hk1 : (k : Int) < (qs.length : Int) := by omega
      have hk0 : (0 : Int) ≤ (k : Int) := by omega
      obtain ⟨q, hq⟩ : ∃ e, qs[k]? = some e := ⟨qs[k], List.getElem?_eq_getElem hlt⟩
      obtain ⟨p, rfl⟩ : ∃ p, q = some p := by
        cases q with
        | none => exact absurd rfl (HS.out _ (List.mem_of_getElem? hq))
        | some p => exact ⟨p, rfl⟩
      have hc : w.cell? ⟨g, k, none⟩ = some (.pointer (some ⟨p, 0, none⟩)) := HP.out.cell k _ hq
      clear hq
      go_wp2
      go_round
      case rel => exact ⟨k + 1, by omega, by go_num⟩
      case measure => simp [intOf]; omega
    · obtain rfl : k = qs.length := by omega
      clear hlt
      go_wp2
      go_ret
      exact ⟨rfl, rfl⟩
set_option maxRecDepth 20000 in
theorem contains_no (g cap : Nat) (qs : List (Option Nat)) (hl : qs.length ≤ 1000) (w : World) (hP : PtrsAt w g qs) (hs : ∀ q ∈ qs, q ≠ none) :
    Calls Tryd.prog 25 #[.slice (some ⟨g, 0, none⟩) qs.length cap, .pointer none] w fun e w' => e = .returned (.bool false) ∧ w = w' := by
  have HI := Lib.hid (index_no g cap qs hl w hP hs)
  clear hP hs
  go_enter Tryd.func25, Tryd.ntmps25
  go_wp2_with (go_at_call 34; refine HI.out.mono ?_; rintro e w' ⟨rfl, rfl⟩)
  go_ret
  exact ⟨rfl, rfl⟩
set_option maxRecDepth 20000 in
theorem index_two (g p cap : Nat) (w : World) (h0 : w.cell? ⟨g, 0, none⟩ = some (.pointer (some ⟨p, 0, none⟩))) (h1 : w.cell? ⟨g, 1, none⟩ = some (.pointer none)) :
    Calls Tryd.prog 34 #[.slice (some ⟨g, 0, none⟩) 2 cap, .pointer none] w fun e w' => e = .returned (.int .i64 1) ∧ w = w' := by
  have hnn : ∀ (a : Addr) (w : World), (binOp .eql 25 (.pointer none) (.pointer (some a))).run Tryd.prog w = .ok (.bool false) w := fun a w => by kernel_rfl
  go_enter Tryd.func34, Tryd.ntmps34
  go_wp2
  go_rounds 2
  go_ret
  exact ⟨rfl, rfl⟩
set_option maxRecDepth 20000 in
theorem contains_two (g p cap : Nat) (w : World) (h0 : w.cell? ⟨g, 0, none⟩ = some (.pointer (some ⟨p, 0, none⟩))) (h1 : w.cell? ⟨g, 1, none⟩ = some (.pointer none)) :
    Calls Tryd.prog 25 #[.slice (some ⟨g, 0, none⟩) 2 cap, .pointer none] w fun e w' => e = .returned (.bool true) ∧ w = w' := by
  have HI := Lib.hid (index_two g p cap w h0 h1)
  clear h0 h1
  go_enter Tryd.func25, Tryd.ntmps25
  go_wp2_with (go_at_call 34; refine HI.out.mono ?_; rintro e w' ⟨rfl, rfl⟩)
  go_ret
  exact ⟨rfl, rfl⟩
set_option maxRecDepth 20000 in
theorem join_none (g p b q cap : Nat) (w : World) (hp : w.cell? ⟨p, 0, none⟩ = some (.map (some b))) (h0 : w.cell? ⟨g, 0, none⟩ = some (.pointer (some ⟨q, 0, none⟩))) (h1 : w.cell? ⟨g, 1, none⟩ = some (.pointer none)) :
    Calls Tryd.prog 14 #[.pointer (some ⟨p, 0, none⟩), .slice (some ⟨g, 0, none⟩) 2 cap] w fun e w' => e = .returned (.int .i64 1) ∧ w = w' := by
  have HI := Lib.hid (contains_two g q cap w h0 h1)
  have hr := fun w => run_eql_map_nil (P := Tryd.prog) w 62 9 32 (some b) Tryd.underlying62
  clear h0 h1
  go_enter Tryd.func14, Tryd.ntmps14
  go_wp2_with (go_at_call 25; refine HI.out.mono ?_; rintro e w' ⟨rfl, rfl⟩)
  go_ret
  exact ⟨rfl, rfl⟩
end Go.Proofs.YtgoeiejdcpoaaaaDoor
