/-
  What a meter holds: a list of names and counts, by rising names; the map's reading of it; what a put does to it. Part of the proofs of the meter's statements. No condition beyond the theorems' own hypotheses.
-/
import Derived.Test.YtgoeiejdcpoaaaaDoorMc
import Derived.Test.YtgoeiejdcpoaaaaDoorIter
import Derived.WideShapes
namespace Go.Proofs.YtgoeiejdcpoaaaaDoor
open Go.RowKit Go.Maps Go.Sort Go.WideAt Go.WideShapes Fl

abbrev Ent := List UInt8 × Nat × Nat
def val (e : Ent) : Value := .complex .f64 (W e.2.1) (W e.2.2)
def ents (l : List Ent) : List (Lit × DV) := l.map fun e => (.string e.1, .held (val e))
def dat (l : List Ent) : DV := .map (ents l)
def Srt (l : List Ent) : Prop := l.Pairwise (fun x y => bytesBefore x.1 y.1 = true)
/-- As a map's put: in place of the entry of that name, or between its neighbours. -/
def insE (x : Ent) : List Ent → List Ent
  | [] => [x]
  | y :: r => if bytesBefore x.1 y.1 then x :: y :: r else y :: insE x r
def putE (x : Ent) (l : List Ent) : List Ent := insE x (l.filter fun e => !(e.1 == x.1))
def hasE (l : List Ent) (n : List UInt8) : Bool := l.any fun e => e.1 == n

theorem insert_ents (x : Ent) : ∀ l : List Ent, DataW.insert (.string x.1, .held (val x)) (ents l) = ents (insE x l)
  | [] => rfl
  | y :: r => by
    have ih := insert_ents x r
    unfold ents at *
    simp only [List.map_cons, DataW.insert, insE]
    show (if bytesBefore x.1 y.1 = true then _ else _) = _
    by_cases h : bytesBefore x.1 y.1 = true
    · rw [if_pos h, if_pos h]; rfl
    · rw [if_neg h, if_neg h, ih]; rfl
theorem filter_ents (n : List UInt8) : ∀ l : List Ent, (ents l).filter (fun p => !p.1.sameKey (.string n)) = ents (l.filter fun e => !(e.1 == n))
  | [] => rfl
  | y :: r => by
    have ih := filter_ents n r
    unfold ents at *
    simp only [List.map_cons, List.filter_cons]
    show (if (!(y.1 == n)) = true then _ else _) = _
    by_cases h : (!(y.1 == n)) = true
    · rw [if_pos h, if_pos h, ih]; rfl
    · rw [if_neg h, if_neg h, ih]
theorem dat_put (x : Ent) (l : List Ent) : (dat l).put (.string x.1) (.held (val x)) = dat (putE x l) := by
  unfold dat DataW.put putE
  simp only
  rw [filter_ents, insert_ents]
theorem dat_has (l : List Ent) (n : List UInt8) : Maps.has (dat l) (.string n) = hasE l n := by
  show ((ents l).any fun p => p.1.sameKey (.string n)) = _
  unfold ents hasE
  rw [List.any_map]
  rfl
theorem dat_size (l : List Ent) : Maps.size (dat l) = l.length := by
  show (ents l).length = _
  simp [ents]
theorem dat_at (l : List Ent) (hs : Srt l) (e : Ent) (he : e ∈ l) (z : DV) : (dat l).atKey (.string e.1) z = .held (val e) := by
  induction l with
  | nil => simp at he
  | cons y r ih =>
    obtain ⟨h1, h2⟩ := List.pairwise_cons.1 hs
    unfold dat DataW.atKey
    simp only [ents, List.map_cons, List.find?_cons]
    by_cases h : y.1 = e.1
    · have hy : y = e := by
        rcases List.mem_cons.1 he with rfl | hr
        · rfl
        · have := h1 e hr
          rw [h, bytes_irrefl] at this
          cases this
      subst hy
      have : Lit.sameKey (.string y.1) (.string y.1) = true := by simp [Lit.sameKey]
      rw [this]
    · have : Lit.sameKey (.string y.1) (.string e.1) = false := by simp [Lit.sameKey, h]
      rw [this]
      have hr : e ∈ r := by
        rcases List.mem_cons.1 he with rfl | hr
        · exact absurd rfl h
        · exact hr
      have := ih h2 hr
      unfold dat DataW.atKey at this
      simpa [ents] using this
theorem mem_insE (x e : Ent) : ∀ l : List Ent, e ∈ insE x l ↔ e = x ∨ e ∈ l
  | [] => by simp [insE]
  | y :: r => by
    unfold insE
    by_cases h : bytesBefore x.1 y.1 = true
    · rw [if_pos h]; simp
    · rw [if_neg h, List.mem_cons, mem_insE x e r, List.mem_cons]
      constructor
      · rintro (h | h | h) <;> simp [h]
      · rintro (h | h | h) <;> simp [h]
theorem srt_insE (x : Ent) : ∀ l : List Ent, Srt l → (∀ e ∈ l, e.1 ≠ x.1) → Srt (insE x l)
  | [], _, _ => by simp [insE, Srt]
  | y :: r, hs, hn => by
    obtain ⟨h1, h2⟩ := List.pairwise_cons.1 hs
    unfold insE
    by_cases h : bytesBefore x.1 y.1 = true
    · rw [if_pos h]
      refine List.pairwise_cons.2 ⟨fun e he => ?_, hs⟩
      rcases List.mem_cons.1 he with rfl | hr
      · exact h
      · exact bytes_trans _ _ _ h (h1 e hr)
    · rw [if_neg h]
      refine List.pairwise_cons.2 ⟨fun e he => ?_, srt_insE x r h2 (fun e he => hn e (by simp [he]))⟩
      rcases (mem_insE x e r).1 he with rfl | hr
      · rcases bytes_total y.1 e.1 (hn y (by simp)) with h' | h'
        · exact h'
        · exact absurd h' h
      · exact h1 e hr
theorem srt_putE (x : Ent) (l : List Ent) (hs : Srt l) : Srt (putE x l) := by
  refine srt_insE x _ (hs.filter _) (fun e he => ?_)
  have := (List.mem_filter.1 he).2
  simpa using this
theorem before_le : ∀ a b : List UInt8, bytesBefore a b = true → a ≤ b
  | [], _, _ => List.nil_le _
  | _ :: _, [], h => by cases h
  | x :: r, y :: s, h => by
    have h' : (decide (x < y) || (x == y && bytesBefore r s)) = true := h
    rw [List.cons_le_cons_iff]
    simp only [Bool.or_eq_true, decide_eq_true_eq, Bool.and_eq_true, beq_iff_eq] at h'
    rcases h' with h' | ⟨rfl, h'⟩
    · exact .inl h'
    · exact .inr ⟨rfl, before_le r s h'⟩
theorem names_sorted (l : List Ent) (hs : Srt l) (ss : List (List UInt8)) (hp : ss.Perm (strKeys (dat l))) : ss.mergeSort (fun x y => decide (x ≤ y)) = l.map (·.1) := by
  have e : strKeys (dat l) = l.map (·.1) := by
    show ((ents l).map fun p => strOf p.1) = _
    unfold ents
    rw [List.map_map]
    rfl
  rw [e] at hp
  have h1 := mergeSort_of_perm hp
  unfold leB at h1
  rw [h1]
  refine List.mergeSort_of_pairwise ?_
  rw [List.pairwise_map]
  exact hs.imp (fun h => by simpa using before_le _ _ h)
end Go.Proofs.YtgoeiejdcpoaaaaDoor
