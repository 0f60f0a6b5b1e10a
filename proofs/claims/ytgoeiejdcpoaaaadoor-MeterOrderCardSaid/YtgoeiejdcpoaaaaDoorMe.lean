/-
  A meter in memory (MeterAt); walks: meter.New, (*Meter).Add. Part of the proofs of the meter's statements. No condition beyond the theorems' own hypotheses.
-/
import Derived.Test.YtgoeiejdcpoaaaaDoorMd
namespace Go.Proofs.YtgoeiejdcpoaaaaDoor
open Go.RowKit Go.Maps Go.WideAt Go.WideShapes Fl

structure MeterAt (w : World) (Q p b : Nat) (l : List Ent) : Prop where
  box : w.heap[p]? = some (.cells #[.map (some b)] 64 (0, 0))
  own : w.ownsMap Tryd.prog 9 RH b Q (dat l)
structure Good (l : List Ent) : Prop where
  srt : Srt l
  fit : ∀ e ∈ l, e.2.1 ≤ 4503599627370496 ∧ e.2.2 ≤ 4503599627370496
  nam : ∀ e ∈ l, mayB e.1 = true
  len : l.length ≤ 64
theorem MeterAt.ne {w : World} {Q p b : Nat} {l : List Ent} (h : MeterAt w Q p b l) : p ≠ b := by
  rintro rfl
  obtain ⟨es, clock, hb, -⟩ := h.own
  rw [h.box] at hb
  cases hb
theorem MeterAt.lt {w : World} {Q p b : Nat} {l : List Ent} (h : MeterAt w Q p b l) : p < w.heap.size := (Array.getElem?_eq_some_iff.1 h.box).1
theorem MeterAt.cell {w : World} {Q p b : Nat} {l : List Ent} (h : MeterAt w Q p b l) : w.cell? ⟨p, 0, none⟩ = some (.map (some b)) := by simp [World.cell?, h.box]
theorem MeterAt.kept {w w' : World} {Q p b : Nat} {l : List Ent} (h : MeterAt w Q p b l) (hb : Below w.heap.size w w') : MeterAt w' Q p b l :=
  ⟨(hb.block _ h.lt).trans h.box, h.own.kept (row := none) ⟨hb.os, hb.tape, hb.output, hb.size, fun k hk _ => hb.block k hk⟩ (by simp)⟩
theorem MeterAt.turned {w w' : World} {Q Q' p b : Nat} {l l' : List Ent} (h : MeterAt w Q p b l) (hg : w.grownBy w' (some b)) (ho : w'.ownsMap Tryd.prog 9 RH b Q' (dat l')) : MeterAt w' Q' p b l' :=
  ⟨(hg.block _ h.lt (by simpa using h.ne)).trans h.box, ho⟩
theorem MeterAt.more {w : World} {Q Q' p b : Nat} {l : List Ent} (h : MeterAt w Q p b l) (hq : Q ≤ Q') : MeterAt w Q' p b l := ⟨h.box, h.own.mono hq⟩
/-- Another meter's step leaves a meter as it was. -/
theorem MeterAt.other {w w' : World} {Q p b r : Nat} {l : List Ent} (h : MeterAt w Q p b l) (hg : w.grownBy w' (some r)) (hp : p ≠ r) (hb : b ≠ r) : MeterAt w' Q p b l :=
  ⟨(hg.block _ h.lt (by simpa using hp)).trans h.box, h.own.kept hg (by simpa using hb)⟩

set_option maxRecDepth 10000 in
theorem new_any (w : World) : Calls Tryd.prog 17 #[] w fun e w' => e = .returned (.pointer (some ⟨w.heap.size + 1, 0, none⟩)) ∧ MeterAt w' 0 (w.heap.size + 1) w.heap.size [] ∧ Below w.heap.size w w' := by
  have hmm := @run_makeMap Tryd.prog
  go_enter Tryd.func17, Tryd.ntmps17
  go_wp2
  go_ret
  refine ⟨rfl, ⟨?_, ?_⟩, ((Below.refl _ w).alloc (Nat.le_refl _) _).alloc (by simp) _⟩
  · have := World.alloc_heap_new (w.alloc (.map #[] 0)) (.cells #[.map (some w.heap.size)] 64 (0, 0))
    simpa using this
  · exact (World.ownsMap_made w Tryd.prog 9 RH).alloc _

/-- Add, of parts and a name that may be: what adds does. -/
theorem add_fit (p b : Nat) (s : ByteArray) (hm : mayB s.data.toList = true) (a c : Nat) (ha : a ≤ 4503599627370496) (hc : c ≤ 4503599627370496) (w : World) (hp : w.cell? ⟨p, 0, none⟩ = some (.map (some b))) (r : Int) (R : World → World → Prop)
    (hA : ∀ W, Below w.heap.size w W → Calls Tryd.prog 27 #[.map (some b), .string s, .complex .f64 (Fl.W a) (Fl.W c)] W fun e w' => e = .returned (.int .i64 r) ∧ R W w') :
    Calls Tryd.prog 18 #[.pointer (some ⟨p, 0, none⟩), .string s, .int .i64 a, .int .i64 c] w fun e w' => e = .returned (.int .i64 r) ∧ ∃ W, Below w.heap.size w W ∧ R W w' := by
  have HA := Lib.hid hA
  have HM := Lib.hid hm
  have hr := fun w => run_eql_map_nil (P := Tryd.prog) w 62 9 32 (some b) Tryd.underlying62
  have M := Lib.hid (make_yes a c (by omega) (by omega))
  clear hA hm ha hc
  have hlt := World.block_lt_of_cell? _ _ hp
  have hl : ∀ W, Below w.heap.size w W → W.cell? ⟨p, 0, none⟩ = some (.map (some b)) := fun W hb => (hb.cell (p := ⟨p, 0, none⟩) hlt).trans hp
  go_enter Tryd.func18, Tryd.ntmps18
  go_wp2_with (first
    | (go_at_call 27; refine (HA.out _ hb).mono ?_; rintro e w3 ⟨rfl, hR⟩)
    | (go_at_call 29; refine (may_any _ _).mono ?_; rintro e w2 ⟨rfl, hb⟩; rw [HM.out]; have hp2 := hl _ hb)
    | (go_at_call 22; refine (M.out _).mono ?_; rintro e w' ⟨rfl, rfl⟩))
  go_ret
  exact ⟨rfl, _, hb, hR⟩
end Go.Proofs.YtgoeiejdcpoaaaaDoor
