/-
  Walks: (*Meter).Add on a meter: a new counter, more of one, too many, too much. Part of the proofs of the meter's statements. No condition beyond the theorems' own hypotheses.
-/
import Derived.Test.YtgoeiejdcpoaaaaDoorMh
namespace Go.Proofs.YtgoeiejdcpoaaaaDoor
open Go.RowKit Go.Maps Go.WideAt Go.WideShapes Go.Sort Fl

/-- But for the meter's map, what lay is as it was. -/
def Turned (b : Nat) (w w' : World) : Prop := ∃ W, Below w.heap.size w W ∧ W.grownBy w' (some b)
theorem Turned.below {b B : Nat} {w w' : World} (h : Turned b w w') (hB : B ≤ b) (hw : B ≤ w.heap.size) : Below B w w' := by
  obtain ⟨W, h1, h2⟩ := h
  have h1' := h1.mono hw
  exact h1'.grown h2 (Nat.le_trans hw h1.size) (fun k e => by cases e; exact hB)
theorem small {s : ByteArray} (hm : mayB s.data.toList = true) : s.size ≤ maxLen := by
  unfold mayB at hm
  simp only [Bool.and_eq_true, decide_eq_true_eq] at hm
  have : s.data.toList.length = s.size := by simp
  unfold maxLen
  omega
theorem add_new (Q p b : Nat) (hQ : Q < 1000000) (l : List Ent) (w : World) (hM : MeterAt w Q p b l) (s : ByteArray) (hm : mayB s.data.toList = true) (a c : Nat) (ha : a ≤ 4503599627370496) (hc : c ≤ 4503599627370496)
    (hno : hasE l s.data.toList = false) (hl : l.length < 64) :
    Calls Tryd.prog 18 #[.pointer (some ⟨p, 0, none⟩), .string s, .int .i64 a, .int .i64 c] w fun e w' => e = .returned (.int .i64 0) ∧ MeterAt w' (Q + 1) p b (putE (s.data.toList, a, c) l) ∧ Turned b w w' := by
  refine (add_fit p b s hm a c ha hc w hM.cell 0 (fun W w' => w'.ownsMap Tryd.prog 9 RH b (Q + 1) (dat (putE (s.data.toList, a, c) l)) ∧ W.grownBy w' (some b)) ?_).mono ?_
  · intro W hW
    have h := adds_new b Q (dat l) W (hM.kept hW).own s _ (key9 s (small hm)) a c ha hc hQ (by rw [dat_has]; exact hno) (by rw [dat_size]; exact hl)
    have e := dat_put (s.data.toList, a, c) l
    unfold val at e
    rw [e] at h
    exact h
  · rintro e w' ⟨rfl, W, hb, ho, hg⟩
    exact ⟨rfl, (hM.kept hb).turned hg ho, W, hb, hg⟩
theorem add_more (Q p b : Nat) (hQ : Q < 1000000) (l : List Ent) (hg : Good l) (w : World) (hM : MeterAt w Q p b l) (s : ByteArray) (hm : mayB s.data.toList = true) (a c : Nat) (ha : a ≤ 4503599627370496) (hc : c ≤ 4503599627370496)
    (a0 c0 : Nat) (he : (s.data.toList, a0, c0) ∈ l) (ha1 : a0 + a ≤ 4503599627370496) (hc1 : c0 + c ≤ 4503599627370496) :
    Calls Tryd.prog 18 #[.pointer (some ⟨p, 0, none⟩), .string s, .int .i64 a, .int .i64 c] w fun e w' => e = .returned (.int .i64 0) ∧ MeterAt w' (Q + 1) p b (putE (s.data.toList, a0 + a, c0 + c) l) ∧ Turned b w w' := by
  refine (add_fit p b s hm a c ha hc w hM.cell 0 (fun W w' => w'.ownsMap Tryd.prog 9 RH b (Q + 1) (dat (putE (s.data.toList, a0 + a, c0 + c) l)) ∧ W.grownBy w' (some b)) ?_).mono ?_
  · intro W hW
    have h := adds_more b Q (dat l) W (hM.kept hW).own s _ (key9 s (small hm)) a c ha hc hQ a0 c0 (fun z => dat_at l hg.srt (s.data.toList, a0, c0) he z) ha1 hc1
    have e := dat_put (s.data.toList, a0 + a, c0 + c) l
    unfold val at e
    rw [e] at h
    exact h
  · rintro e w' ⟨rfl, W, hb, ho, hg⟩
    exact ⟨rfl, (hM.kept hb).turned hg ho, W, hb, hg⟩
theorem add_full (Q p b : Nat) (l : List Ent) (hl1 : l.length ≤ 1000) (w : World) (hM : MeterAt w Q p b l) (s : ByteArray) (hm : mayB s.data.toList = true) (a c : Nat) (ha : a ≤ 4503599627370496) (hc : c ≤ 4503599627370496)
    (hno : hasE l s.data.toList = false) (hl : 64 ≤ l.length) :
    Calls Tryd.prog 18 #[.pointer (some ⟨p, 0, none⟩), .string s, .int .i64 a, .int .i64 c] w fun e w' => e = .returned (.int .i64 6) ∧ Below w.heap.size w w' := by
  refine (add_fit p b s hm a c ha hc w hM.cell 6 (fun W w' => W = w') ?_).mono ?_
  · intro W hW
    exact adds_full b Q (dat l) W (hM.kept hW).own s _ (key9 s (small hm)) a c ha hc (by rw [dat_has]; exact hno) (by rw [dat_size]; exact hl) (by rw [dat_size]; omega)
  · rintro e w' ⟨rfl, W, hb, rfl⟩
    exact ⟨rfl, hb⟩
theorem add_over (Q p b : Nat) (l : List Ent) (hg : Good l) (w : World) (hM : MeterAt w Q p b l) (s : ByteArray) (hm : mayB s.data.toList = true) (a c : Nat) (ha : a ≤ 4503599627370496) (hc : c ≤ 4503599627370496)
    (a0 c0 : Nat) (he : (s.data.toList, a0, c0) ∈ l) (hv : ¬ (a0 + a ≤ 4503599627370496 ∧ c0 + c ≤ 4503599627370496)) :
    Calls Tryd.prog 18 #[.pointer (some ⟨p, 0, none⟩), .string s, .int .i64 a, .int .i64 c] w fun e w' => e = .returned (.int .i64 9) ∧ Below w.heap.size w w' := by
  have hf := hg.fit _ he
  refine (add_fit p b s hm a c ha hc w hM.cell 9 (fun W w' => W = w') ?_).mono ?_
  · intro W hW
    exact adds_over b Q (dat l) W (hM.kept hW).own s _ (key9 s (small hm)) a c ha hc a0 c0 hf.1 hf.2 (fun z => dat_at l hg.srt (s.data.toList, a0, c0) he z) hv
  · rintro e w' ⟨rfl, W, hb, rfl⟩
    exact ⟨rfl, hb⟩
end Go.Proofs.YtgoeiejdcpoaaaaDoor
