/-
  Plain law: what a meter holds behind k Adds of the names of MeterFull. Part of the proof of MeterFull. No condition beyond the theorems' own hypotheses.
-/
import Derived.Test.YtgoeiejdcpoaaaaDoorMg
namespace Go.Proofs.YtgoeiejdcpoaaaaDoor

/-- The name of the i-th Add. -/
def nm (i : Nat) : List UInt8 := [UInt8.ofNat (97 + i % 26), UInt8.ofNat (97 + i / 26)]
def fullL : Nat → List Ent
  | 0 => []
  | k + 1 => putE (nm k, 1, 2) (fullL k)
instance (l : List Ent) : Decidable (Srt l) := inferInstanceAs (Decidable (List.Pairwise _ l))
def okL (k : Nat) : Bool :=
  decide (Srt (fullL k)) && (fullL k).all (fun e => e.2.1 == 1 && e.2.2 == 2 && mayB e.1) && decide ((fullL k).length = k) && decide (tot (fullL k) = (k, 2 * k)) && (List.range 84).all fun i => hasE (fullL k) (nm i) == decide (i < k)
theorem okL_all : ∀ k, k < 65 → okL k = true := by decide +kernel
theorem nm_may : ∀ i, i < 84 → mayB (nm i) = true := by decide +kernel
theorem full_srt (k : Nat) (h : k ≤ 64) : Srt (fullL k) := by
  have := okL_all k (by omega)
  simp only [okL, Bool.and_eq_true, decide_eq_true_eq] at this
  exact this.1.1.1.1
theorem full_len (k : Nat) (h : k ≤ 64) : (fullL k).length = k := by
  have := okL_all k (by omega)
  simp only [okL, Bool.and_eq_true, decide_eq_true_eq] at this
  exact this.1.1.2
theorem full_tot (k : Nat) (h : k ≤ 64) : tot (fullL k) = (k, 2 * k) := by
  have := okL_all k (by omega)
  simp only [okL, Bool.and_eq_true, decide_eq_true_eq] at this
  exact this.1.2
theorem full_has (k i : Nat) (h : k ≤ 64) (hi : i < 84) : hasE (fullL k) (nm i) = decide (i < k) := by
  have := okL_all k (by omega)
  simp only [okL, Bool.and_eq_true] at this
  have h2 := List.all_eq_true.1 this.2 i (List.mem_range.2 hi)
  simpa using h2
theorem full_good (k : Nat) (h : k ≤ 64) : Good (fullL k) := by
  have h0 := okL_all k (by omega)
  simp only [okL, Bool.and_eq_true, decide_eq_true_eq] at h0
  have h1 := List.all_eq_true.1 h0.1.1.1.2
  refine ⟨full_srt k h, fun e he => ?_, fun e he => ?_, by rw [full_len k h]; exact h⟩
  · have := h1 e he
    simp only [Bool.and_eq_true, beq_iff_eq] at this
    omega
  · have := h1 e he
    simp only [Bool.and_eq_true] at this
    exact this.2
end Go.Proofs.YtgoeiejdcpoaaaaDoor
