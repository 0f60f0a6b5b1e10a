/-
  (*Table).Listen at a table where none listens; table.New; the law's pair. Part of the proof of TableFull. No condition beyond the theorems' own hypotheses.
-/
import Derived.Test.YtmphajjaepahkaaN
import Derived.BigQuiet
import Derived.Deep.QuietTactic
namespace Go.Proofs.Ytmphajjaepahkaa
open Go.RowKit Go.Maps

theorem keepL {b g : Nat} {v0 v1 v2 : Value} {w1 w2 : World} (h : w1.cell? ⟨g, 0, none⟩ = some v0 ∧ w1.cell? ⟨g, 1, none⟩ = some v1 ∧ w1.cell? ⟨b + 1, 8, none⟩ = some v2) (hg : w1.grownBy w2 (some b)) (hb : g ≠ b) :
    w2.cell? ⟨g, 0, none⟩ = some v0 ∧ w2.cell? ⟨g, 1, none⟩ = some v1 ∧ w2.cell? ⟨b + 1, 8, none⟩ = some v2 := by
  obtain ⟨h0, h1, h2⟩ := h
  exact ⟨(World.cell?_of_block (hg.block _ (World.block_lt_of_cell? _ _ h0) (by simp; omega))).trans h0, (World.cell?_of_block (hg.block _ (World.block_lt_of_cell? _ _ h1) (by simp; omega))).trans h1,
    (World.cell?_of_block (hg.block _ (World.block_lt_of_cell? _ _ h2) (by simp))).trans h2⟩
theorem TabAt.ear {w w' : World} {Q b : Nat} {D : Nat → DV} {E E' : DV} {n m : Int} (h : TabAt w Q b D E n m) (hg : w.grownBy w' (some b)) (ho : w'.ownsMap Try.prog 33 RH b (Q + 1) E') : TabAt w' (Q + 1) b D E' n m :=
  ⟨h.tab_grown hg (by omega), fun s hs => ((h.shards s hs).kept hg (by simp; omega)).mono (by omega), ho⟩

set_option maxHeartbeats 1600000 in
set_option maxRecDepth 20000 in
theorem listen_new (Q b : Nat) (hQ : Q < 10000) (D : Nat → DV) (n m : Int) (w : World) (hT : TabAt w Q b D (.map []) n m) (x0 : Int) (hx0 : 0 < x0) (kl : Lit) (hkl : keyOf Try.prog 33 (.int .u64 x0) = some kl) (i p : Int) :
    Calls Try.prog 12 #[.pointer (some ⟨b + 1, 0, none⟩), .int .u64 x0, .agg #[.int .u32 i, .int .u16 p]] w fun e w' => e = .returned (.int .i64 0) ∧ TabAt w' (Q + 1) b D (one kl (.agg #[.int .u32 i, .int .u16 p])) n m ∧ TF b w w' := by
  have hT1 := hT.kept ((Below.refl _ w).alloc (Nat.le_refl _) (.cells #[.int .u32 i, .int .u16 p] 29))
  have m8 : (w.alloc (.cells #[.int .u32 i, .int .u16 p] 29)).cell? ⟨b + 1, 8, none⟩ = some (.map (some b)) := hT1.cell 8
  have hbz : b + 1 < w.heap.size := (Array.getElem?_eq_some_iff.1 hT.tab).1
  have hT2 := hT1.kept ((Below.refl _ _).alloc (Nat.le_refl _) (.cells #[.int .u32 0, .int .u16 0] 29))
  have m8' := hT2.cell 8
  simp only [tcells] at m8'
  have hno : Maps.has (.map [] : DV) kl = false := rfl
  have hsk : (x0 == 0) = false := by simp; omega
  have HT1 := Lib.hid hT1
  have HT2 := Lib.hid hT2
  have HT3 := Lib.hid (hT2.kept (Below.refl _ _).drew)
  obtain ⟨w2, hrun, hown2, hgrow2⟩ := HT3.out.ears.update law33 Try.underlying43 (val := .agg #[.int .u32 i, .int .u16 p]) (d := .held (.agg #[.int .u32 i, .int .u16 p])) (ps := []) (by unfold maxLen; omega) hkl rfl
  clear hT1 hT2
  go_enter Try.func12, Try.ntmps12
  go_wp2_with (first
    | (go_at_call 15; refine (made_yes _ b _ m8).mono ?_; rintro e w' ⟨rfl, rfl⟩)
    | (at_lookup; refine look_no rfl _ _ 43 rfl 33 29 law33 Try.underlying43 (zero29 _) b Q (.map []) rfl (HT1.out.ears) _ kl rfl hkl hno ?_))
  go_region_held3 (fun w' => w'.cell? ⟨w.heap.size, 0, none⟩ = some (.int .u32 i) ∧ w'.cell? ⟨w.heap.size, 1, none⟩ = some (.int .u16 p) ∧ w'.cell? ⟨b + 1, 8, none⟩ = some (.map (some b)))
    (first | assumption | (exact ⟨by simp [go_sem], by simp [go_sem], by simpa [go_sem] using m8'⟩) | (exact keepL (by assumption) (by assumption) (by omega)) | trace_state)
    (fail)
  all_goals go_wp2
  go_ret
  have e : ((DataW.map [] : DV).put kl (.held (.agg #[.int .u32 i, .int .u16 p]))) = one kl (.agg #[.int .u32 i, .int .u16 p]) := rfl
  rw [e] at hown2
  exact ⟨rfl, HT3.out.ear hgrow2 hown2, (TF.of_below ((((Below.refl _ w).alloc (Nat.le_refl _) _).alloc (by simp) _).drew)).trans (TF.of_grown hgrow2 (by omega) (by omega))⟩

theorem pair_any (a b : Int) (w : World) : Calls Try.prog 6 #[.int .u16 a, .int .u16 b] w fun e w' => e = .returned (.agg #[.int .u32 1, .int .u16 a, .int .u32 2, .int .u16 b]) ∧ Below w.heap.size w w' := by
  go_enter Try.func6, Try.ntmps6
  go_wp2
  go_returns
  exact ⟨rfl, by go_grown⟩
set_option maxRecDepth 10000 in
theorem new_any (w : World) : Calls Try.prog 4 #[] w fun e w' => e = .returned (.pointer (some ⟨w.heap.size + 1, 0, none⟩)) ∧ w' =
   ((((((((((w.alloc (.map #[] 0)).alloc (.cells (tcells w.heap.size 0 0) 47)).alloc (.map #[] 0)).alloc (.map #[] 0)).alloc (.map #[] 0)).alloc (.map #[] 0)).alloc (.map #[] 0)).alloc (.map #[] 0)).alloc (.map #[] 0)).alloc (.map #[] 0)) := by
  have hmm := @run_makeMap Try.prog
  go_enter Try.func4, Try.ntmps4
  go_wp2
  go_rounds 9
  go_ret
  exact ⟨rfl, rfl⟩
abbrev mm : Obj := .map #[] 0
theorem made_alloc {W : World} {k : Nat} (h : W.ownsMap Try.prog 31 RH k 0 (.map [])) : (W.alloc mm).ownsMap Try.prog 31 RH k 0 (.map []) := h.alloc _
theorem made_new (W : World) (k : Nat) (hk : k = W.heap.size) : (W.alloc mm).ownsMap Try.prog 31 RH k 0 (.map [] : DV) := by subst hk; exact World.ownsMap_made W _ _ _
theorem eight (W : World) (s : Nat) (hs : s < 8) : ((((((((W.alloc mm).alloc mm).alloc mm).alloc mm).alloc mm).alloc mm).alloc mm).alloc mm).ownsMap Try.prog 31 RH (W.heap.size + s) 0 (.map [] : DV) := by
  match s, hs with
  | 0, _ => exact made_alloc (made_alloc (made_alloc (made_alloc (made_alloc (made_alloc (made_alloc (made_new _ _ (by simp))))))))
  | 1, _ => exact made_alloc (made_alloc (made_alloc (made_alloc (made_alloc (made_alloc (made_new _ _ (by simp)))))))
  | 2, _ => exact made_alloc (made_alloc (made_alloc (made_alloc (made_alloc (made_new _ _ (by simp))))))
  | 3, _ => exact made_alloc (made_alloc (made_alloc (made_alloc (made_new _ _ (by simp)))))
  | 4, _ => exact made_alloc (made_alloc (made_alloc (made_new _ _ (by simp))))
  | 5, _ => exact made_alloc (made_alloc (made_new _ _ (by simp)))
  | 6, _ => exact made_alloc (made_new _ _ (by simp))
  | 7, _ => exact made_new _ _ (by simp)
theorem eight_below (W : World) : Below W.heap.size W ((((((((W.alloc mm).alloc mm).alloc mm).alloc mm).alloc mm).alloc mm).alloc mm).alloc mm) :=
  ((((((((Below.refl _ W).alloc (by simp) _).alloc (by simp <;> omega) _).alloc (by simp <;> omega) _).alloc (by simp <;> omega) _).alloc (by simp <;> omega) _).alloc (by simp <;> omega) _).alloc (by simp <;> omega) _).alloc (by simp <;> omega) _
theorem new_tab (w : World) : Calls Try.prog 4 #[] w fun e w' => e = .returned (.pointer (some ⟨w.heap.size + 1, 0, none⟩)) ∧ TabAt w' 0 w.heap.size (fun _ => .map []) (.map []) 0 0 ∧ Below w.heap.size w w' := by
  refine (new_any w).mono ?_
  rintro e w' ⟨rfl, rfl⟩
  have h8 := eight ((w.alloc mm).alloc (.cells (tcells w.heap.size 0 0) 47))
  have hb := eight_below ((w.alloc mm).alloc (.cells (tcells w.heap.size 0 0) 47))
  have hz : ((w.alloc mm).alloc (.cells (tcells w.heap.size 0 0) 47)).heap.size = w.heap.size + 2 := by simp
  rw [hz] at h8 hb
  refine ⟨rfl, ⟨?_, h8, ?_⟩, (((Below.refl _ w).alloc (Nat.le_refl _) _).alloc (by simp) _).trans (hb.mono (by omega))⟩
  · refine (hb.block _ (by omega)).trans ?_
    have := World.alloc_heap_new (w.alloc mm) (.cells (tcells w.heap.size 0 0) 47 (0, 0))
    simpa using this
  · exact ((World.ownsMap_made w Try.prog 33 RH).alloc _).kept (row := none) ⟨hb.os, hb.tape, hb.output, by have := hb.size; exact this, fun k hk _ => hb.block k (by simp at hk; omega)⟩ (by simp)
end Go.Proofs.Ytmphajjaepahkaa
