/-
  Walks: the document's meter: At, Total, Copy. Part of the proofs of the meter's statements. No condition beyond the theorems' own hypotheses.
-/
import Derived.Test.YtgoeiejdcpoaaaaDoorNa
namespace Go.Proofs.YtgoeiejdcpoaaaaDoor
open Go.RowKit Go.Maps Go.WideAt Go.WideShapes Go.Sort Fl

theorem str_ne {l : List UInt8} {s : ByteArray} (h : l ≠ s.data.toList) : (l == s.toList) = false := by
  rw [beq_eq_false_iff_ne, ByteArray.toList_eq]
  exact h
theorem str_same {l : List UInt8} {s : ByteArray} (h : l = s.data.toList) : (l == s.toList) = true := by
  rw [beq_iff_eq, ByteArray.toList_eq]
  exact h
theorem str_eq {l : List UInt8} {s : ByteArray} (h : l = s.data.toList) : (⟨l.toArray⟩ : ByteArray) = s := by
  subst h
  cases s
  simp
set_option maxHeartbeats 800000 in
theorem at_no (r : Nat) (v : Value) (l : List Ent) (hl : l.length ≤ 1000) (w : World) (hR : RefAt w r v l) (s : ByteArray) (hno : hasE l s.data.toList = false) :
    Calls Tryd.prog 11 #[.pointer (some ⟨r, 0, none⟩), .string s] w fun e w' => e = .returned (.int .i64 (-1)) ∧ w = w' := by
  have hc := hR.cell
  rcases hR.shape with ⟨rfl, rfl⟩ | ⟨g, cap, hne, rfl, hcap, hcm, hgr, hgl, hfz, hcell⟩
  · clear hR hno
    go_enter Tryd.func11, Tryd.ntmps11
    go_wp2
    go_loop [5] (fun i => i = .int .i64 0) (fun _ => 0)
    case atStart => rfl
    case round =>
      subst hrel
      go_wp2
      go_ret
      exact ⟨rfl, rfl⟩
  · have hno' : ∀ (k : Nat) (e : Ent), l[k]? = some e → e.1 ≠ s.data.toList := by
      intro k e he h
      have : hasE l s.data.toList = true := List.any_eq_true.2 ⟨e, List.mem_of_getElem? he, by simp [h]⟩
      rw [hno] at this
      cases this
    have HNO := Lib.hid hno'
    have HC := Lib.hid hcell
    clear hR hno hno' hcell hfz hne
    unfold maxLen at hcm
    go_enter Tryd.func11, Tryd.ntmps11
    go_wp2
    go_loop [5] (fun i => ∃ k : Nat, k ≤ l.length ∧ i = .int .i64 k) (fun i => l.length - (intOf i).toNat)
    case atStart => exact ⟨0, Nat.zero_le _, rfl⟩
    case round =>
      obtain ⟨k, hk, rfl⟩ := hrel
      by_cases hlt : k < l.length
      · have hk1 : (k : Int) < (l.length : Int) := by omega
        have hk0 : (0 : Int) ≤ (k : Int) := by omega
        obtain ⟨e, he⟩ : ∃ e, l[k]? = some e := ⟨l[k], List.getElem?_eq_getElem hlt⟩
        have q0 := HC.out k e he 0 (by omega)
        simp only [cnt, List.getElem?_cons_zero, Nat.add_zero] at q0
        have hx := str_ne (HNO.out k e he)
        clear he
        go_wp2
        go_round
        case rel => exact ⟨k + 1, by omega, by go_num⟩
        case measure => simp [intOf]; omega
      · obtain rfl : k = l.length := by omega
        clear hlt
        go_wp2
        go_ret
        exact ⟨rfl, rfl⟩
set_option maxHeartbeats 800000 in
theorem at_yes (r : Nat) (v : Value) (l : List Ent) (hl : l.length ≤ 1000) (w : World) (hR : RefAt w r v l) (s : ByteArray) (i : Nat) (e : Ent) (he : l[i]? = some e) (hs : e.1 = s.data.toList) (hb : ∀ (j : Nat) e', j < i → l[j]? = some e' → e'.1 ≠ s.data.toList) :
    Calls Tryd.prog 11 #[.pointer (some ⟨r, 0, none⟩), .string s] w fun e w' => e = .returned (.int .i64 i) ∧ w = w' := by
  have hc := hR.cell
  have hil := (List.getElem?_eq_some_iff.1 he).1
  rcases hR.shape with ⟨rfl, rfl⟩ | ⟨g, cap, hne, rfl, hcap, hcm, hgr, hgl, hfz, hcell⟩
  · simp at hil
  · have HB := Lib.hid hb
    have HC := Lib.hid hcell
    have HE := Lib.hid he
    have HS := Lib.hid (str_same hs)
    clear hR hb hcell hfz hne he hs
    unfold maxLen at hcm
    go_enter Tryd.func11, Tryd.ntmps11
    go_wp2
    go_loop [5] (fun u => ∃ k : Nat, k ≤ i ∧ u = .int .i64 k) (fun u => i - (intOf u).toNat)
    case atStart => exact ⟨0, Nat.zero_le _, rfl⟩
    case round =>
      obtain ⟨k, hk, rfl⟩ := hrel
      have hk1 : (k : Int) < (l.length : Int) := by omega
      have hk0 : (0 : Int) ≤ (k : Int) := by omega
      by_cases hlt : k < i
      · obtain ⟨e', he'⟩ : ∃ e, l[k]? = some e := ⟨l[k], List.getElem?_eq_getElem (by omega)⟩
        have q0 := HC.out k e' he' 0 (by omega)
        simp only [cnt, List.getElem?_cons_zero, Nat.add_zero] at q0
        have hx := str_ne (HB.out k e' hlt he')
        clear he'
        go_wp2
        go_round
        case rel => exact ⟨k + 1, by omega, by go_num⟩
        case measure => simp [intOf]; omega
      · obtain rfl : k = i := by omega
        have q0 := HC.out k e HE.out 0 (by omega)
        simp only [cnt, List.getElem?_cons_zero, Nat.add_zero] at q0
        have hx := HS.out
        clear hlt
        go_wp2
        go_ret
        exact ⟨rfl, rfl⟩
def stp (s : Nat × Nat) (e : Ent) : Nat × Nat := step s e
set_option maxHeartbeats 1600000 in
theorem rtotal_any (r : Nat) (v : Value) (l : List Ent) (hg : Good l) (w : World) (hR : RefAt w r v l) :
    Calls Tryd.prog 24 #[.pointer (some ⟨r, 0, none⟩)] w fun e w' => e = .returned (.tuple #[.int .i64 (tot l).1, .int .i64 (tot l).2]) ∧ w = w' := by
  have hc := hR.cell
  have hlen := hg.len
  rcases hR.shape with ⟨rfl, rfl⟩ | ⟨g, cap, hne, rfl, hcap, hcm, hgr, hgl, hfz, hcell⟩
  · clear hR hg
    go_enter Tryd.func24, Tryd.ntmps24
    go_wp2
    go_loop [4, 5, 6] (fun a b i => a = .int .i64 0 ∧ b = .int .i64 0 ∧ i = .int .i64 0) (fun _ _ _ => 0)
    case atStart => exact ⟨rfl, rfl, rfl⟩
    case round =>
      obtain ⟨rfl, rfl, rfl⟩ := hrel
      go_wp2
      go_ret2
      exact ⟨rfl, rfl⟩
  · have HC := Lib.hid hcell
    have HG := Lib.hid hg
    clear hR hcell hfz hne hg
    unfold maxLen at hcm
    go_enter Tryd.func24, Tryd.ntmps24
    go_wp2
    go_loop [4, 5, 6] (fun a b i => ∃ k : Nat, k ≤ l.length ∧ i = .int .i64 k ∧ a = .int .i64 (tot (l.take k)).1 ∧ b = .int .i64 (tot (l.take k)).2) (fun _ _ i => l.length - (intOf i).toNat)
    case atStart => exact ⟨0, Nat.zero_le _, rfl, rfl, rfl⟩
    case round =>
      obtain ⟨k, hk, rfl, rfl, rfl⟩ := hrel
      have ht := tot_le (l.take k)
      by_cases hlt : k < l.length
      · have hk1 : (k : Int) < (l.length : Int) := by omega
        have hk0 : (0 : Int) ≤ (k : Int) := by omega
        obtain ⟨e, he⟩ : ∃ e, l[k]? = some e := ⟨l[k], List.getElem?_eq_getElem hlt⟩
        have hfit := HG.out.fit e (List.mem_of_getElem? he)
        have q1 := HC.out k e he 1 (by omega)
        have q2 := HC.out k e he 2 (by omega)
        simp only [cnt, List.getElem?_cons_zero, List.getElem?_cons_succ] at q1 q2
        have HT := Lib.hid (tot_take l k e he)
        obtain ⟨t1, t2⟩ := ht
        obtain ⟨f1, f2⟩ := hfit
        clear he
        generalize tot (l.take k) = t at *
        have t1' : (t.1 : Int) ≤ 4503599627370496 := by omega
        have t2' : (t.2 : Int) ≤ 4503599627370496 := by omega
        have f1' : (e.2.1 : Int) ≤ 4503599627370496 := by omega
        have f2' : (e.2.2 : Int) ≤ 4503599627370496 := by omega
        clear t1 t2 f1 f2
        go_wp2
        go_round
        case rel => exact ⟨k + 1, by omega, by go_num, by rw [HT.out]; simp [step]; omega, by rw [HT.out]; simp [step]; omega⟩
        case measure => simp [intOf]; omega
      · obtain rfl : k = l.length := by omega
        clear hlt ht
        rw [List.take_length]
        go_wp2
        go_ret2
        exact ⟨rfl, rfl⟩
end Go.Proofs.YtgoeiejdcpoaaaaDoor
