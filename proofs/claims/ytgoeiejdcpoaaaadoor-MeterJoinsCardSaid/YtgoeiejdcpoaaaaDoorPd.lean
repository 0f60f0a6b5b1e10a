/-
  Walk: stevedorelaw04.MeterJoins returns true. No condition beyond the theorems' own hypotheses.
-/
import Derived.Test.YtgoeiejdcpoaaaaDoorPc
import Derived.Test.YtgoeiejdcpoaaaaDoorNj
import Derived.Laws.OwnMore
namespace Go.Proofs.YtgoeiejdcpoaaaaDoor
open Go.RowKit Go.Maps Go.WideAt Go.WideShapes Go.Sort Fl

theorem Both.far {B k : Nat} {w w' : World} {Q p b r : Nat} {v : Value} {l : List Ent} (h : Both B w Q p b r v l) (hg : w.grownBy w' (some k)) (hk : k < B) : Both B w' Q p b r v l := by
  have hp := h.pB; have hb := h.bB; have hr := h.rB
  exact ⟨h.mt.other hg (by omega) (by omega), h.rf.keep (hg.block r h.rf.lt (by simp; omega)) (fun g hgo => hg.block g (h.rf.glt hgo) (by have := h.gB g hgo; simp; omega)), hp, hb, hr, h.gB⟩
/-- Behind a join of both. -/
theorem Both.joined {B : Nat} {w w6 w7 : World} {Q Q' p b b' r : Nat} {v v' : Value} {l l' : List Ent} (h : Both B w Q p b r v l) (hB : B ≤ w.heap.size) (hM : MeterAt w6 Q' p b' l') (hg : w.grownBy w6 (some p)) (hb : b' = b ∨ w.heap.size ≤ b')
    (hR : RefAt w7 r v' l') (hg2 : w6.grownBy w7 (some r)) (hv : v' = v ∨ ∀ g, v'.ownBlock = some g → w6.heap.size ≤ g) : Both B w7 Q' p b' r v' l' := by
  have hn := h.ne
  have hr := h.rf.lt
  have hs := hg.size
  refine ⟨hM.other hg2 hn.1 ?_, hR, h.pB, ?_, h.rB, ?_⟩
  · rcases hb with rfl | hb
    · exact hn.2.1
    · omega
  · rcases hb with rfl | hb
    · exact h.bB
    · omega
  · intro g hgo
    rcases hv with rfl | hv
    · exact h.gB g hgo
    · have := hv g hgo; omega
theorem Both.ref_far {B : Nat} {w w' : World} {Q p b r : Nat} {v : Value} {l : List Ent} (h : Both B w Q p b r v l) (hg : w.grownBy w' (some p)) : RefAt w' r v l := by
  have hn := h.ne
  exact h.rf.keep (hg.block r h.rf.lt (by simp; exact Ne.symm hn.1)) (fun g hgo => hg.block g (h.rf.glt hgo) (by simp; exact Ne.symm (hn.2.2 g hgo).1))
theorem PtrsAt.far {w w' : World} {g k : Nat} {qs : List (Option Nat)} (h : PtrsAt w g qs) (hg : w.grownBy w' (some k)) (hk : g ≠ k) : PtrsAt w' g qs :=
  ⟨Nat.lt_of_lt_of_le h.lt hg.size, fun i q hq => hg.cell (h.cell i q hq) (by simpa using hk)⟩
theorem ptrs_two (w : World) (p q : Nat) (t : TypeId) : PtrsAt (w.alloc (.cells #[.pointer (some ⟨p, 0, none⟩), .pointer (some ⟨q, 0, none⟩)] t)) w.heap.size [some p, some q] := by
  refine ⟨by simp, fun k x hx => ?_⟩
  have h0 := World.cell?_alloc_new w #[.pointer (some ⟨p, 0, none⟩), .pointer (some ⟨q, 0, none⟩)] t k
  rw [h0]
  match k, hx with
  | 0, hx => simp at hx; subst hx; rfl
  | 1, hx => simp at hx; subst hx; rfl
  | k + 2, hx => simp at hx
theorem ptrs_own {w : World} {B e g n cap : Nat} {qs : List (Option Nat)} (h : w.ownsRow B e 1 (.slice (some ⟨g, 0, none⟩) n cap) n (qs.map ptr)) : PtrsAt w g qs := by
  refine ⟨(h.lt g rfl).2, fun k q hq => ?_⟩
  have hlen := h.1
  have hk := (List.getElem?_eq_some_iff.1 hq).1
  rw [h.cellAt k (by simp at hlen; omega), List.getElem?_map, hq]
  rfl
theorem info25 : (Tryd.prog.info? 25).map (fun i => (i.zero, i.size, i.bytes)) = some (some (.pointer none), 1, 8) := by kernel_rfl
theorem info26 : (Tryd.prog.info? 26).map (fun i => (i.zero, i.size, i.bytes)) = some (some (.pointer none), 1, 8) := by kernel_rfl
/-- Three pairs of meters, one behind the other. -/
structure Three (w : World) (B2 B3 B4 : Nat) (W : World) (la lb lc : List Stp) (p1 b1 r1 : Nat) (v1 : Value) (p2 b2 r2 : Nat) (v2 : Value) (p3 b3 r3 : Nat) (v3 : Value) : Prop where
  a : Both w.heap.size W la.length p1 b1 r1 v1 (playL la)
  b : Both B2 W lb.length p2 b2 r2 v2 (playL lb)
  c : Both B3 W lc.length p3 b3 r3 v3 (playL lc)
  p1lt : p1 < B2
  r1lt : r1 < B2
  h2 : w.heap.size ≤ B2
  h3 : B2 ≤ B3
  h4 : B3 ≤ B4
  hW : B4 ≤ W.heap.size
  bel : Below w.heap.size w W
theorem Three.kept {w : World} {B2 B3 B4 : Nat} {W W' : World} {la lb lc : List Stp} {p1 b1 r1 : Nat} {v1 : Value} {p2 b2 r2 : Nat} {v2 : Value} {p3 b3 r3 : Nat} {v3 : Value} (h : Three w B2 B3 B4 W la lb lc p1 b1 r1 v1 p2 b2 r2 v2 p3 b3 r3 v3) (hb : Below W.heap.size W W') : Three w B2 B3 B4 W' la lb lc p1 b1 r1 v1 p2 b2 r2 v2 p3 b3 r3 v3 :=
  ⟨h.a.kept hb, h.b.kept hb, h.c.kept hb, h.p1lt, h.r1lt, h.h2, h.h3, h.h4, Nat.le_trans h.hW hb.size, h.bel.trans (hb.mono h.bel.size)⟩
/-- The same behind both joins. -/
structure Joined (w : World) (B2 B3 : Nat) (W : World) (l : List Ent) (lb lc : List Stp) (Q p1 b1 r1 : Nat) (v1 : Value) (p2 b2 r2 : Nat) (v2 : Value) (p3 b3 r3 : Nat) (v3 : Value) : Prop where
  a : Both w.heap.size W Q p1 b1 r1 v1 l
  b : Both B2 W lb.length p2 b2 r2 v2 (playL lb)
  c : Both B3 W lc.length p3 b3 r3 v3 (playL lc)
  bel : Below w.heap.size w W
theorem Joined.kept {w : World} {B2 B3 : Nat} {W W' : World} {l : List Ent} {lb lc : List Stp} {Q p1 b1 r1 : Nat} {v1 : Value} {p2 b2 r2 : Nat} {v2 : Value} {p3 b3 r3 : Nat} {v3 : Value} (h : Joined w B2 B3 W l lb lc Q p1 b1 r1 v1 p2 b2 r2 v2 p3 b3 r3 v3) (hb : Below W.heap.size W W') : Joined w B2 B3 W' l lb lc Q p1 b1 r1 v1 p2 b2 r2 v2 p3 b3 r3 v3 :=
  ⟨h.a.kept hb, h.b.kept hb, h.c.kept hb, h.bel.trans (hb.mono h.bel.size)⟩
/-- The meters that are joined: two, or with the first one. -/
def msOf (self : Bool) (la lb lc : List Stp) (p1 b1 p2 b2 p3 b3 : Nat) : List Mtr := ⟨lb.length, p2, b2, playL lb⟩ :: ⟨lc.length, p3, b3, playL lc⟩ :: (if self then [⟨la.length, p1, b1, playL la⟩] else [])
def rsOf (self : Bool) (la lb lc : List Stp) (r1 : Nat) (v1 : Value) (r2 : Nat) (v2 : Value) (r3 : Nat) (v3 : Value) : List Rtr := ⟨r2, v2, playL lb⟩ :: ⟨r3, v3, playL lc⟩ :: (if self then [⟨r1, v1, playL la⟩] else [])
def xsOf (self : Bool) (la lb lc : List Stp) : List Ent := playL lb ++ (playL lc ++ (if self then playL la else []))
theorem flat_ms (self : Bool) (la lb lc : List Stp) (p1 b1 p2 b2 p3 b3 : Nat) : flatM (msOf self la lb lc p1 b1 p2 b2 p3 b3) = xsOf self la lb lc := by cases self <;> simp [flatM, msOf, xsOf]
theorem flat_rs (self : Bool) (la lb lc : List Stp) (r1 : Nat) (v1 : Value) (r2 : Nat) (v2 : Value) (r3 : Nat) (v3 : Value) : flatR (rsOf self la lb lc r1 v1 r2 v2 r3 v3) = xsOf self la lb lc := by cases self <;> simp [flatR, rsOf, xsOf]
theorem xs_len (self : Bool) (la lb lc : List Stp) : (xsOf self la lb lc).length ≤ 192 := by
  have h1 := (good_playL la).len; have h2 := (good_playL lb).len; have h3 := (good_playL lc).len
  cases self <;> simp [xsOf] <;> omega
section
variable {w : World} {B2 B3 B4 : Nat} {W : World} {la lb lc : List Stp} {p1 b1 r1 : Nat} {v1 : Value} {p2 b2 r2 : Nat} {v2 : Value} {p3 b3 r3 : Nat} {v3 : Value}
/-- m.Join(l...): then the document's meters, and the slice of them, are as they were. -/
theorem Three.mjoin (h : Three w B2 B3 B4 W la lb lc p1 b1 r1 v1 p2 b2 r2 v2 p3 b3 r3 v3) (hla : la.length ≤ 1000) (self : Bool) (g cap : Nat) (hP : PtrsAt W g ((msOf self la lb lc p1 b1 p2 b2 p3 b3).map fun m => some m.p)) :
    Calls Tryd.prog 14 #[.pointer (some ⟨p1, 0, none⟩), .slice (some ⟨g, 0, none⟩) (msOf self la lb lc p1 b1 p2 b2 p3 b3).length cap] W fun e w6 => JoinEnds W p1 b1 (playL la) (xsOf self la lb lc) e w6 := by
  have := mjoin_any la.length p1 b1 (playL la) (good_playL la) W h.a.mt g cap (msOf self la lb lc p1 b1 p2 b2 p3 b3) (by cases self <;> simp [msOf]) hP (by
    intro m hm
    cases self <;> simp [msOf] at hm
    · rcases hm with rfl | rfl
      · exact ⟨h.b.mt, good_playL lb⟩
      · exact ⟨h.c.mt, good_playL lc⟩
    · rcases hm with rfl | rfl | rfl
      · exact ⟨h.b.mt, good_playL lb⟩
      · exact ⟨h.c.mt, good_playL lc⟩
      · exact ⟨h.a.mt, good_playL la⟩) (by rw [flat_ms]; have := xs_len self la lb lc; omega)
  rw [flat_ms] at this
  exact this
theorem Three.rjoin (h : Three w B2 B3 B4 W la lb lc p1 b1 r1 v1 p2 b2 r2 v2 p3 b3 r3 v3) (self : Bool) (g cap : Nat) (hgB : B4 ≤ g) (hP : PtrsAt W g ((rsOf self la lb lc r1 v1 r2 v2 r3 v3).map fun m => some m.r)) {e6 : Ending} {w6 : World} (hj : JoinEnds W p1 b1 (playL la) (xsOf self la lb lc) e6 w6) :
    Calls Tryd.prog 15 #[.pointer (some ⟨r1, 0, none⟩), .slice (some ⟨g, 0, none⟩) (rsOf self la lb lc r1 v1 r2 v2 r3 v3).length cap] w6 fun e w7 => e = .returned (.int .i64 (addsL (playL la) (xsOf self la lb lc)).1) ∧ ∃ Q b1' v1', Joined w B2 B3 w7 (joinL (playL la) (xsOf self la lb lc)) lb lc Q p1 b1' r1 v1' p2 b2 r2 v2 p3 b3 r3 v3 := by
  obtain ⟨b', Q', -, hM, hg, hb'⟩ := hj
  have hp1 := h.p1lt; have hr1 := h.r1lt; have h2 := h.h2; have h3 := h.h3; have h4 := h.h4; have hW := h.hW
  have ha := h.a.ref_far hg
  have hb := h.b.far hg hp1
  have hc := h.c.far hg (by omega)
  have hr2 := h.b.rB; have hr3 := h.c.rB
  have := rjoin_any r1 v1 (playL la) (good_playL la) w6 ha g cap (rsOf self la lb lc r1 v1 r2 v2 r3 v3) (by cases self <;> simp [rsOf]) (hP.far hg (by omega)) (by
    intro m hm
    cases self <;> simp [rsOf] at hm
    · rcases hm with rfl | rfl
      · exact ⟨hb.rf, good_playL lb⟩
      · exact ⟨hc.rf, good_playL lc⟩
    · rcases hm with rfl | rfl | rfl
      · exact ⟨hb.rf, good_playL lb⟩
      · exact ⟨hc.rf, good_playL lc⟩
      · exact ⟨ha, good_playL la⟩) (by
    intro m hm hmr
    cases self <;> simp [rsOf] at hm
    · rcases hm with rfl | rfl
      · simp at hmr; omega
      · simp at hmr; omega
    · rcases hm with rfl | rfl | rfl
      · simp at hmr; omega
      · simp at hmr; omega
      · rfl)
  rw [flat_rs] at this
  refine this.mono ?_
  rintro e w7 ⟨v', rfl, hR, hg2, hv'⟩
  refine ⟨rfl, Q', b', v', h.a.joined (Nat.le_trans h2 (by omega)) hM hg hb' hR hg2 hv', hb.far hg2 (by omega), hc.far hg2 (by omega), ?_⟩
  have q1 : Below w.heap.size w w6 := h.bel.grown hg (Nat.le_trans h.bel.size (Nat.le_refl _)) (fun k e => by cases e; exact h.a.pB)
  exact q1.grown hg2 q1.size (fun k e => by cases e; exact h.a.rB)
theorem Three.mjoin_f (h : Three w B2 B3 B4 W la lb lc p1 b1 r1 v1 p2 b2 r2 v2 p3 b3 r3 v3) (hla : la.length ≤ 1000) (g cap : Nat) (hP : PtrsAt W g [some p2, some p3]) :
    Calls Tryd.prog 14 #[.pointer (some ⟨p1, 0, none⟩), .slice (some ⟨g, 0, none⟩) 2 cap] W fun e w6 => JoinEnds W p1 b1 (playL la) (xsOf false la lb lc) e w6 := h.mjoin hla false g cap hP
theorem Three.mjoin_t (h : Three w B2 B3 B4 W la lb lc p1 b1 r1 v1 p2 b2 r2 v2 p3 b3 r3 v3) (hla : la.length ≤ 1000) (g cap : Nat) (hP : PtrsAt W g [some p2, some p3, some p1]) :
    Calls Tryd.prog 14 #[.pointer (some ⟨p1, 0, none⟩), .slice (some ⟨g, 0, none⟩) 3 cap] W fun e w6 => JoinEnds W p1 b1 (playL la) (xsOf true la lb lc) e w6 := h.mjoin hla true g cap hP
theorem Three.rjoin_f (h : Three w B2 B3 B4 W la lb lc p1 b1 r1 v1 p2 b2 r2 v2 p3 b3 r3 v3) (g cap : Nat) (hgB : B4 ≤ g) (hP : PtrsAt W g [some r2, some r3]) {e6 : Ending} {w6 : World} (hj : JoinEnds W p1 b1 (playL la) (xsOf false la lb lc) e6 w6) :
    Calls Tryd.prog 15 #[.pointer (some ⟨r1, 0, none⟩), .slice (some ⟨g, 0, none⟩) 2 cap] w6 fun e w7 => e = .returned (.int .i64 (addsL (playL la) (xsOf false la lb lc)).1) ∧ ∃ Q b1' v1', Joined w B2 B3 w7 (joinL (playL la) (xsOf false la lb lc)) lb lc Q p1 b1' r1 v1' p2 b2 r2 v2 p3 b3 r3 v3 := h.rjoin false g cap hgB hP hj
theorem Three.rjoin_t (h : Three w B2 B3 B4 W la lb lc p1 b1 r1 v1 p2 b2 r2 v2 p3 b3 r3 v3) (g cap : Nat) (hgB : B4 ≤ g) (hP : PtrsAt W g [some r2, some r3, some r1]) {e6 : Ending} {w6 : World} (hj : JoinEnds W p1 b1 (playL la) (xsOf true la lb lc) e6 w6) :
    Calls Tryd.prog 15 #[.pointer (some ⟨r1, 0, none⟩), .slice (some ⟨g, 0, none⟩) 3 cap] w6 fun e w7 => e = .returned (.int .i64 (addsL (playL la) (xsOf true la lb lc)).1) ∧ ∃ Q b1' v1', Joined w B2 B3 w7 (joinL (playL la) (xsOf true la lb lc)) lb lc Q p1 b1' r1 v1' p2 b2 r2 v2 p3 b3 r3 v3 := h.rjoin true g cap hgB hP hj
end
theorem JoinEnds.at {w : World} {p b : Nat} {l0 xs : List Ent} {e : Ending} {w' : World} (h : JoinEnds w p b l0 xs e w') : e = .returned (.int .i64 (addsL l0 xs).1) := by
  obtain ⟨b', Q', h, _⟩ := h
  exact h
theorem below2 (w : World) (o o' : Obj) : Below w.heap.size w ((w.alloc o).alloc o') := ((Below.refl _ w).alloc (Nat.le_refl _) o).alloc (by simp) o'
end Go.Proofs.YtgoeiejdcpoaaaaDoor
