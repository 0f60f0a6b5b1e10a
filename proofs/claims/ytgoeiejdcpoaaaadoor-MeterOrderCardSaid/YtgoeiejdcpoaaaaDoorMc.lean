/-
  Walks: which names may be (meter.may); maps.Keys, slices.Sorted, maps.Clone at this program. Part of the proofs of the meter's statements. No condition beyond the theorems' own hypotheses.
-/
import Derived.Test.YtgoeiejdcpoaaaaDoorMb
import Derived.Test.YtgoeiejdcpoaaaaDoorShelf
import Derived.BigQuiet
namespace Go.Proofs.YtgoeiejdcpoaaaaDoor
open Go.RowKit Go.Maps Go.Sort Go.Shelf Fl

theorem below_drewN {B : Nat} {a w : World} (h : Below B a w) (q : Nat) : Below B a (w.drewN q) := ⟨h.os, h.tape, h.output, h.size, h.block⟩
/-- The letters that a name may have. -/
def letters : List UInt8 := [97, 98, 99, 100, 101, 102, 103, 104, 105, 106, 107, 108, 109, 110, 111, 112, 113, 114, 115, 116, 117, 118, 119, 120, 121, 122, 45]
def mayB (l : List UInt8) : Bool := decide (1 ≤ l.length) && decide (l.length ≤ 32) && l.all (letters.contains ·)
theorem dropWhile_nil {p : UInt8 → Bool} : ∀ l : List UInt8, (l.dropWhile p).isEmpty = l.all p
  | [] => rfl
  | a :: r => by
    rw [List.dropWhile_cons, List.all_cons]
    cases h : p a
    · simp
    · simp only [if_true, Bool.true_and]
      exact dropWhile_nil r
theorem all_dropWhile {p : UInt8 → Bool} : ∀ l : List UInt8, (l.dropWhile p).all p = l.all p
  | [] => rfl
  | a :: r => by
    rw [List.dropWhile_cons]
    cases h : p a
    · simp
    · simp only [if_true]
      rw [all_dropWhile r, List.all_cons, h, Bool.true_and]
theorem trim_empty (l : List UInt8) : (Lib.trimS l letters).isEmpty = l.all (letters.contains ·) := by
  unfold Lib.trimS Lib.trimLeftS Lib.trimRightS
  rw [dropWhile_nil, List.all_reverse, all_dropWhile, List.all_reverse]
theorem zero84 (w : World) : (zeroValue 84).run Tryd.prog w = .ok (.agg (Array.replicate 256 (.bool false))) w := by kernel_rfl
theorem size84 : (Tryd.prog.info? 84).map (·.size) = some 256 := by kernel_rfl
theorem letters_ascii : ∀ (j : Nat) b, letters[j]? = some b → b.toNat < 128 := by
  intro j b h
  have hm : b ∈ letters := List.mem_of_getElem? h
  have : ∀ b ∈ letters, b.toNat < 128 := by decide
  exact this b hm
theorem trim_any (s : ByteArray) (h0 : 0 < s.size) (h1 : s.size ≤ 32) (w : World) : Calls Tryd.prog 36 #[.string s, .string ⟨letters.toArray⟩] w fun e w' => e = .returned (.string ⟨(Lib.trimS s.data.toList letters).toArray⟩) ∧ Below w.heap.size w w' := by
  refine (Any.strings_Trim_set Tryd.lays160 zero84 size84 s ⟨letters.toArray⟩ w (by decide) h0 (by omega) (by decide) letters_ascii).mono ?_
  rintro e w' ⟨rfl, q, rfl⟩
  exact ⟨rfl, below_drewN (((Below.refl _ w).alloc (Nat.le_refl _) _).alloc (by simp) _) _⟩
theorem may_any (s : ByteArray) (w : World) : Calls Tryd.prog 29 #[.string s] w fun e w' => e = .returned (.bool (mayB s.data.toList)) ∧ Below w.heap.size w w' := by
  have hsz : s.data.toList.length = s.size := by simp
  by_cases h0 : 1 ≤ s.size
  · by_cases h1 : s.size ≤ 32
    · have HT := Lib.hid (trim_any s (by omega) h1)
      have e1 : decide ((1 : Int) ≤ (s.size : Int)) = true := by simp; omega
      have e2 : decide ((s.size : Int) ≤ 32) = true := by simp; omega
      have er : mayB s.data.toList = (Lib.trimS s.data.toList letters).isEmpty := by
        rw [trim_empty]
        unfold mayB
        rw [hsz]
        simp [h0, h1]
      rw [er]
      clear er h0 h1 hsz
      generalize Lib.trimS s.data.toList letters = t at *
      cases t with
      | nil =>
        go_enter Tryd.func29, Tryd.ntmps29
        go_wp2_with (go_at_call 36; refine (HT.out _).mono ?_; rintro e w' ⟨rfl, hb⟩)
        go_ret
        exact ⟨rfl, hb⟩
      | cons x r =>
        go_enter Tryd.func29, Tryd.ntmps29
        go_wp2_with (go_at_call 36; refine (HT.out _).mono ?_; rintro e w' ⟨rfl, hb⟩)
        go_ret
        exact ⟨rfl, hb⟩
    · have e1 : decide ((1 : Int) ≤ (s.size : Int)) = true := by simp; omega
      have e2 : decide ((s.size : Int) ≤ 32) = false := by simp; omega
      have er : mayB s.data.toList = false := by unfold mayB; rw [hsz]; simp [h1]
      rw [er]
      clear er h0 h1 hsz
      go_enter Tryd.func29, Tryd.ntmps29
      go_wp2
      go_ret
      exact ⟨rfl, Below.refl _ _⟩
  · have e1 : decide ((1 : Int) ≤ (s.size : Int)) = false := by simp; omega
    have er : mayB s.data.toList = false := by unfold mayB; rw [hsz]; simp [h0]
    rw [er]
    clear er h0 hsz
    go_enter Tryd.func29, Tryd.ntmps29
    go_wp2
    go_ret
    exact ⟨rfl, Below.refl _ _⟩
end Go.Proofs.YtgoeiejdcpoaaaaDoor
