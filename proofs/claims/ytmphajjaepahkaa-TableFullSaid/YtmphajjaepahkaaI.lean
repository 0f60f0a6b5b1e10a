/-
  The closure of (*Table).Old, and counting what it strikes. Part of the proof of TableFull. No condition beyond the theorems' own hypotheses.
-/
import Derived.Test.YtmphajjaepahkaaF
import Derived.Maps.Ext
import Derived.Laws.IdiomRangeMap
import Derived.Deep.LoopGhost
import Derived.Lib.SlMapFilter
namespace Go.Proofs.Ytmphajjaepahkaa
open Go.RowKit

theorem clos_yes (b : Nat) (n m u now : Int) (hm0 : 1 ≤ m) (hm1 : m ≤ 5000) (hu : u ≤ now) (v0 v1 v2 v3 : Int) (B1 B2 : Nat) (w : World)
    (hn : w.cell? ⟨B1, 0, none⟩ = some (.int .i64 now)) (ht : w.cell? ⟨B2, 0, none⟩ = some (.pointer (some ⟨b + 1, 0, none⟩))) (hT : w.heap[b + 1]? = some (.cells (tcells b n m) 47 (0, 0))) :
    Calls Try.prog 18 #[.agg #[.int .u32 v0, .int .u16 v1, .int .u32 v2, .int .u16 v3], .agg #[.int .u64 0, .int .i64 u], .pointer (some ⟨B1, 0, none⟩), .pointer (some ⟨B2, 0, none⟩)] w fun e w' =>
      e = .returned (.bool true) ∧ w.grownBy w' (some (b + 1)) ∧ w'.heap[b + 1]? = some (.cells (tcells b n (m - 1)) 47 (0, 0)) := by
  have l1 := World.block_lt_of_cell? _ _ hn
  have l2 := World.block_lt_of_cell? _ _ ht
  have l3 := (Array.getElem?_eq_some_iff.1 hT).1
  have l3' : b + 1 < w.heap.size + 1 := by omega
  have hd : decide (u ≤ now) = true := by simpa using hu
  have c10 : w.cell? ⟨b + 1, 10, none⟩ = some (.int .i64 m) := by simp [World.cell?, hT, tcells]
  have f10 : w.frozen? ⟨b + 1, 10, none⟩ = false := by simp [World.frozen?, hT]
  have HT := Lib.hid hT
  clear hT
  go_enter Try.func18, Try.ntmps18
  go_wp2
  go_ret
  refine ⟨rfl, ⟨rfl, rfl, rfl, by simp; omega, fun k hk hne => ?_⟩, ?_⟩
  · rw [Below.heap_alloc _ _ _ (by simp; omega), Below.heap_alloc _ _ _ (by simp; omega), Below.heap_setCell _ _ _ _ (by simpa using hne)]
  · rw [Below.heap_alloc _ _ _ (by simp; omega), Below.heap_alloc _ _ _ (by simp; omega)]
    simp only [World.setCell, Array.getElem?_modify, if_true, HT.out]
    simp [tcells]
theorem clos_no (u now s : Int) (hu : s ≠ 0 ∨ now < u) (v0 v1 v2 v3 : Int) (B1 : Nat) (bt : Value) (w : World)
    (hn : w.cell? ⟨B1, 0, none⟩ = some (.int .i64 now)) :
    Calls Try.prog 18 #[.agg #[.int .u32 v0, .int .u16 v1, .int .u32 v2, .int .u16 v3], .agg #[.int .u64 s, .int .i64 u], .pointer (some ⟨B1, 0, none⟩), bt] w fun e w' =>
      e = .returned (.bool false) ∧ Below w.heap.size w w' := by
  have l1 := World.block_lt_of_cell? _ _ hn
  by_cases hs : s = 0
  · subst hs
    have hu' : now < u := by omega
    have hd : decide (u ≤ now) = false := by simpa using hu'
    clear hu
    go_enter Try.func18, Try.ntmps18
    go_wp2
    go_ret
    exact ⟨rfl, by go_grown⟩
  · have hs' : (s == 0) = false := by simpa using hs
    clear hu hs
    go_enter Try.func18, Try.ntmps18
    go_wp2
    go_ret
    exact ⟨rfl, by go_grown⟩

/-- An entry that rests no more at a time. -/
def expired (now : Int) (_ : Lit) (d : DV) : Bool :=
  match d with
  | .held (.agg cs) => (match cs.toList with | [.int .u64 s, .int .i64 u] => decide (s = 0 ∧ u ≤ now) | _ => false)
  | _ => false
def Shaped (es : List (Lit × DV)) : Prop :=
  ∀ p ∈ es, (∃ v0 v1 v2 v3 : Int, keyOf Try.prog 31 (.agg #[.int .u32 v0, .int .u16 v1, .int .u32 v2, .int .u16 v3]) = some p.1) ∧ ∃ s u : Int, p.2 = .held (.agg #[.int .u64 s, .int .i64 u])
/-- How many were struck, of those that have come. -/
def struck (now : Int) (es : List (Lit × DV)) (left : Lit → Bool) : Nat := es.countP (fun p => expired now p.1 p.2 && !left p.1)

theorem struck_le (now : Int) (es : List (Lit × DV)) (left : Lit → Bool) : struck now es left ≤ es.countP (fun p => expired now p.1 p.2) := by
  unfold struck
  exact List.countP_mono_left (fun p _ h => by simp at h; exact h.1)
theorem struck_end (now : Int) (es : List (Lit × DV)) (left : Lit → Bool) (h : ∀ kl, left kl = false) : struck now es left = es.countP (fun p => expired now p.1 p.2) := by
  unfold struck
  exact List.countP_congr (fun p _ => by simp [h])
theorem struck_step (now : Int) : ∀ (es : List (Lit × DV)) (left : Lit → Bool) (kl : Lit) (d : DV), (∀ p ∈ es, WideAt.IsKeyLit p.1) → es.Pairwise (fun p q => p.1 ≠ q.1) → left kl = true → (kl, d) ∈ es →
    struck now es (fun z => left z && !z.sameKey kl) = struck now es left + if expired now kl d then 1 else 0
  | [], _, _, _, _, _, _, h => by simp at h
  | p :: r, left, kl, d, hk, hp, hl, hm => by
    obtain ⟨hp1, hp2⟩ := List.pairwise_cons.1 hp
    unfold struck
    rw [List.countP_cons, List.countP_cons]
    rcases List.mem_cons.1 hm with e | hm'
    · subst e
      have hself := WideAt.sameKey_self (hk (kl, d) (by simp))
      have hrest : r.countP (fun p => expired now p.1 p.2 && !(left p.1 && !p.1.sameKey kl)) = r.countP (fun p => expired now p.1 p.2 && !left p.1) := by
        refine List.countP_congr (fun q hq => ?_)
        have : q.1.sameKey kl = false := by
          cases h : q.1.sameKey kl
          · rfl
          · exact absurd (WideAt.sameKey_eq h).symm (hp1 q hq)
        simp [this]
      rw [hrest]
      simp [hself, hl]
    · have hne : p.1.sameKey kl = false := by
        cases h : p.1.sameKey kl
        · rfl
        · exact absurd (WideAt.sameKey_eq h) (hp1 _ hm')
      have ih := struck_step now r left kl d (fun q hq => hk q (by simp [hq])) hp2 hl hm'
      unfold struck at ih
      rw [ih]
      simp [hne]
      omega
end Go.Proofs.Ytmphajjaepahkaa
