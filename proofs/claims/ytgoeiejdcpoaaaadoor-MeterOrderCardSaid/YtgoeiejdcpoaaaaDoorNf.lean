/-
  Plain law of Add (addL); walks: Add of either meter is it; the law's filled. Part of the proofs of the meter's statements. No condition beyond the theorems' own hypotheses.
-/
import Derived.Test.YtgoeiejdcpoaaaaDoorNe
import Derived.Deep.RegionHeld3
namespace Go.Proofs.YtgoeiejdcpoaaaaDoor
open Go.RowKit Go.Maps Go.WideAt Go.WideShapes Go.Sort Fl

/-- What an Add answers, and leaves. -/
def addL (l : List Ent) (s : List UInt8) (a c : Int) : Int × List Ent :=
  if mayB s = true ∧ 0 ≤ a ∧ a ≤ 4503599627370496 ∧ 0 ≤ c ∧ c ≤ 4503599627370496 then
    match l.find? (fun e => e.1 == s) with
    | none => if l.length < 64 then (0, putE (s, a.toNat, c.toNat) l) else (6, l)
    | some e => if e.2.1 + a.toNat ≤ 4503599627370496 ∧ e.2.2 + c.toNat ≤ 4503599627370496 then (0, putE (s, e.2.1 + a.toNat, e.2.2 + c.toNat) l) else (9, l)
  else (2, l)
theorem find_no {l : List Ent} {s : List UInt8} (h : l.find? (fun e => e.1 == s) = none) : hasE l s = false := by
  unfold hasE
  rw [List.any_eq_false]
  intro e he
  have := List.find?_eq_none.1 h e he
  simpa using this
theorem mem_putE {x e : Ent} {l : List Ent} (h : e ∈ putE x l) : e = x ∨ e ∈ l := by
  rcases (mem_insE x e _).1 h with h | h
  · exact .inl h
  · exact .inr (List.mem_filter.1 h).1
theorem len_insE (x : Ent) : ∀ l : List Ent, (insE x l).length = l.length + 1
  | [] => rfl
  | y :: r => by
    unfold insE
    split
    · simp
    · simp [len_insE x r]
theorem good_put {l : List Ent} (h : Good l) (x : Ent) (hx : mayB x.1 = true) (h1 : x.2.1 ≤ 4503599627370496) (h2 : x.2.2 ≤ 4503599627370496) (hl : (putE x l).length ≤ 64) : Good (putE x l) := by
  refine ⟨srt_putE x l h.srt, fun e he => ?_, fun e he => ?_, hl⟩
  · rcases mem_putE he with rfl | he
    · exact ⟨h1, h2⟩
    · exact h.fit e he
  · rcases mem_putE he with rfl | he
    · exact hx
    · exact h.nam e he
theorem good_addL {l : List Ent} (h : Good l) (s : List UInt8) (a c : Int) : Good (addL l s a c).2 := by
  unfold addL
  split
  · rename_i hc
    obtain ⟨hm, a0, a1, c0, c1⟩ := hc
    split
    · rename_i hf
      split
      · rename_i hl
        refine good_put h _ hm (by show a.toNat ≤ _; omega) (by show c.toNat ≤ _; omega) ?_
        unfold putE
        rw [len_insE]
        have := List.length_filter_le (fun e : Ent => !(e.1 == s)) l
        show (l.filter (fun e : Ent => !(e.1 == s))).length + 1 ≤ 64
        omega
      · exact h
    · rename_i e hf
      have hes : e.1 = s := by have := List.find?_some hf; simpa using this
      obtain ⟨i, hi⟩ := List.getElem?_of_mem (List.mem_of_find?_eq_some hf)
      split
      · rename_i hv
        refine good_put h _ hm hv.1 hv.2 ?_
        rw [putE_set (s, e.2.1 + a.toNat, e.2.2 + c.toNat) l i e h.srt hi hes, List.length_set]
        exact h.len
      · exact h
  · exact h
theorem Turned.of_below {b : Nat} {w w' : World} (h : Below w.heap.size w w') : Turned b w w' := ⟨w', h, ⟨rfl, rfl, rfl, Nat.le_refl _, fun _ _ _ => rfl⟩⟩
theorem madd_any (Q p b : Nat) (hQ : Q < 1000000) (l : List Ent) (hg : Good l) (w : World) (hM : MeterAt w Q p b l) (s : ByteArray) (a c : Int) :
    Calls Tryd.prog 18 #[.pointer (some ⟨p, 0, none⟩), .string s, .int .i64 a, .int .i64 c] w fun e w' => e = .returned (.int .i64 (addL l s.data.toList a c).1) ∧ MeterAt w' (Q + 1) p b (addL l s.data.toList a c).2 ∧ Turned b w w' := by
  by_cases hr : 0 ≤ a ∧ a ≤ 4503599627370496 ∧ 0 ≤ c ∧ c ≤ 4503599627370496
  · obtain ⟨a0, a1, c0, c1⟩ := hr
    obtain ⟨m, rfl⟩ : ∃ m : Nat, a = m := ⟨a.toNat, by omega⟩
    obtain ⟨n, rfl⟩ : ∃ n : Nat, c = n := ⟨c.toNat, by omega⟩
    have hm1 : m ≤ 4503599627370496 := by omega
    have hn1 : n ≤ 4503599627370496 := by omega
    by_cases hm : mayB s.data.toList = true
    · unfold addL
      rw [if_pos ⟨hm, a0, a1, c0, c1⟩]
      simp only [Int.toNat_natCast]
      split
      · rename_i hf
        have hno := find_no hf
        split
        · rename_i hl
          exact add_new Q p b hQ l w hM s hm m n hm1 hn1 hno hl
        · rename_i hl
          refine (add_full Q p b l (by have := hg.len; omega) w hM s hm m n hm1 hn1 hno (by omega)).mono ?_
          rintro e w' ⟨rfl, hb⟩
          exact ⟨rfl, (hM.kept hb).more (by omega), Turned.of_below hb⟩
      · rename_i e hf
        have hes : e.1 = s.data.toList := by have := List.find?_some hf; simpa using this
        have hmem := List.mem_of_find?_eq_some hf
        obtain ⟨x, y, z⟩ := e
        obtain rfl : x = s.data.toList := hes
        split
        · rename_i hv
          exact add_more Q p b hQ l hg w hM s hm m n hm1 hn1 y z hmem hv.1 hv.2
        · rename_i hv
          refine (add_over Q p b l hg w hM s hm m n hm1 hn1 y z hmem hv).mono ?_
          rintro e w' ⟨rfl, hb⟩
          exact ⟨rfl, (hM.kept hb).more (by omega), Turned.of_below hb⟩
    · have hm' : mayB s.data.toList = false := by simpa using hm
      unfold addL
      rw [if_neg (fun h => hm h.1)]
      refine (add_name p b s hm' m n hm1 hn1 w hM.cell).mono ?_
      rintro e w' ⟨rfl, hb⟩
      exact ⟨rfl, (hM.kept hb).more (by omega), Turned.of_below hb⟩
  · unfold addL
    rw [if_neg (fun h => hr h.2)]
    refine (add_part p b s a c hr w hM.cell).mono ?_
    rintro e w' ⟨rfl, rfl⟩
    exact ⟨rfl, hM.more (by omega), Turned.of_below (Below.refl _ _)⟩
theorem radd_any (r : Nat) (v : Value) (l : List Ent) (hg : Good l) (w : World) (hR : RefAt w r v l) (s : ByteArray) (hs : s.size ≤ maxLen) (a c : Int) :
    Calls Tryd.prog 23 #[.pointer (some ⟨r, 0, none⟩), .string s, .int .i64 a, .int .i64 c] w fun e w' => e = .returned (.int .i64 (addL l s.data.toList a c).1) ∧ ∃ v', RefAt w' r v' (addL l s.data.toList a c).2 ∧ RFr w w' r v v' := by
  have hlen := hg.len
  have hsame : RFr w w r v v := (hR.below (Below.refl _ _)).2
  by_cases hr : mayB s.data.toList = true ∧ 0 ≤ a ∧ a ≤ 4503599627370496 ∧ 0 ≤ c ∧ c ≤ 4503599627370496
  · obtain ⟨hm, a0, a1, c0, c1⟩ := hr
    obtain ⟨m, rfl⟩ : ∃ m : Nat, a = m := ⟨a.toNat, by omega⟩
    obtain ⟨n, rfl⟩ : ∃ n : Nat, c = n := ⟨c.toNat, by omega⟩
    have hm1 : m ≤ 4503599627370496 := by omega
    have hn1 : n ≤ 4503599627370496 := by omega
    unfold addL
    rw [if_pos ⟨hm, a0, a1, c0, c1⟩]
    simp only [Int.toNat_natCast]
    split
    · rename_i hf
      have hno := find_no hf
      split
      · rename_i hl
        exact radd_new r v l w hR s hm m n hm1 hn1 hno hl
      · rename_i hl
        refine (radd_full r v l (by omega) w hR s hm m n hm1 hn1 hno (by omega)).mono ?_
        rintro e w' ⟨rfl, rfl⟩
        exact ⟨rfl, v, hR, hsame⟩
    · rename_i e hf
      have hes : e.1 = s.data.toList := by have := List.find?_some hf; simpa using this
      obtain ⟨i, hi⟩ := List.getElem?_of_mem (List.mem_of_find?_eq_some hf)
      split
      · rename_i hv
        refine (radd_more r v l hg w hR s hm m n hm1 hn1 i e hi hes hv.1 hv.2).mono ?_
        rintro e w' ⟨rfl, h1, h2⟩
        exact ⟨rfl, v, h1, h2⟩
      · rename_i hv
        refine (radd_over r v l hg w hR s hm m n hm1 hn1 i e hi hes hv).mono ?_
        rintro e w' ⟨rfl, hb⟩
        exact ⟨rfl, v, (hR.below hb).1, (hR.below hb).2⟩
  · unfold addL
    rw [if_neg hr]
    refine (radd_arg r s hs a c ?_ w).mono ?_
    · by_cases hm : mayB s.data.toList = true
      · exact .inr (fun h => hr ⟨hm, h⟩)
      · exact .inl (by simpa using hm)
    rintro e w' ⟨rfl, rfl⟩
    exact ⟨rfl, v, hR, hsame⟩

/-- Steps, as a law gets them. -/
abbrev Stp := ByteArray × Int × Int
structure StepsAt (w : World) (A : Option Addr) (l : List Stp) : Prop where
  at_ : ∀ k x, l[k]? = some x → ∃ b off, A = some ⟨b, off, none⟩ ∧ b < w.heap.size ∧ w.cell? ⟨b, off + k * 3, none⟩ = some (.string x.1) ∧ w.cell? ⟨b, off + k * 3 + 1, none⟩ = some (.int .i64 x.2.1) ∧ w.cell? ⟨b, off + k * 3 + 2, none⟩ = some (.int .i64 x.2.2)
  str : ∀ x ∈ l, x.1.size ≤ maxLen
theorem StepsAt.kept {w w' : World} {A : Option Addr} {l : List Stp} (h : StepsAt w A l) (hb : Below w.heap.size w w') : StepsAt w' A l :=
  ⟨fun k x hx => by
    obtain ⟨b, off, e, hlt, h0, h1, h2⟩ := h.at_ k x hx
    exact ⟨b, off, e, Nat.lt_of_lt_of_le hlt hb.size, (hb.cell (p := ⟨b, _, none⟩) hlt).trans h0, (hb.cell (p := ⟨b, _, none⟩) hlt).trans h1, (hb.cell (p := ⟨b, _, none⟩) hlt).trans h2⟩, h.str⟩
/-- What steps leave. -/
def playL (l : List Stp) : List Ent := l.foldl (fun s x => (addL s x.1.data.toList x.2.1 x.2.2).2) []
theorem good_nil : Good [] := ⟨by simp [Srt], by simp, by simp, by simp⟩
theorem good_playL (l : List Stp) : Good (playL l) := by
  have : ∀ (l : List Stp) (s : List Ent), Good s → Good (l.foldl (fun s x => (addL s x.1.data.toList x.2.1 x.2.2).2) s) := by
    intro l
    induction l with
    | nil => intro s h; exact h
    | cons x r ih => intro s h; exact ih _ (good_addL h _ _ _)
  exact this l _ good_nil
theorem playL_take (l : List Stp) (k : Nat) (x : Stp) (hx : l[k]? = some x) : playL (l.take (k + 1)) = (addL (playL (l.take k)) x.1.data.toList x.2.1 x.2.2).2 := by
  unfold playL
  rw [List.take_add_one, hx, List.foldl_append]
  rfl
/-- A meter and the document's, that hold the same; all of both from block B on. -/
structure Both (B : Nat) (w : World) (Q p b r : Nat) (v : Value) (l : List Ent) : Prop where
  mt : MeterAt w Q p b l
  rf : RefAt w r v l
  pB : B ≤ p
  bB : B ≤ b
  rB : B ≤ r
  gB : ∀ g, v.ownBlock = some g → B ≤ g
theorem Both.ne {B : Nat} {w : World} {Q p b r : Nat} {v : Value} {l : List Ent} (h : Both B w Q p b r v l) : p ≠ r ∧ b ≠ r ∧ (∀ g, v.ownBlock = some g → p ≠ g ∧ b ≠ g) := by
  have hp := h.mt.box
  obtain ⟨es, clock, hb, -⟩ := h.mt.own
  have hr := h.rf.box
  refine ⟨fun e => ?_, fun e => ?_, fun g hg => ?_⟩
  · subst e; rw [hp] at hr; cases hr
  · subst e; rw [hb] at hr; cases hr
  · rcases h.rf.own.2 with ⟨rfl, _⟩ | ⟨g', cap, cur, rfl, _, hgg, _⟩
    · simp [Value.ownBlock] at hg
    · obtain rfl : g' = g := by simpa [Value.ownBlock] using hg
      refine ⟨fun e => ?_, fun e => ?_⟩
      · subst e; rw [hp] at hgg; cases hgg
      · subst e; rw [hb] at hgg; cases hgg
theorem Both.kept {B : Nat} {w w' : World} {Q p b r : Nat} {v : Value} {l : List Ent} (h : Both B w Q p b r v l) (hb : Below w.heap.size w w') : Both B w' Q p b r v l :=
  ⟨h.mt.kept hb, h.rf.kept hb, h.pB, h.bB, h.rB, h.gB⟩
/-- Behind a step of the meter the document's is as it was. -/
theorem Both.ref_turned {B : Nat} {w w' : World} {Q p b r : Nat} {v : Value} {l : List Ent} (h : Both B w Q p b r v l) (ht : Turned b w w') : RefAt w' r v l := by
  obtain ⟨W, h1, h2⟩ := ht
  have hn := h.ne
  have hr := h.rf.kept h1
  exact hr.keep (h2.block r hr.lt (by simp; exact Ne.symm hn.2.1)) (fun g hg => h2.block g (hr.glt hg) (by simp; exact Ne.symm (hn.2.2 g hg).2))
theorem Turned.size {b : Nat} {w w' : World} (h : Turned b w w') : w.heap.size ≤ w'.heap.size := by
  obtain ⟨W, h1, h2⟩ := h
  exact Nat.le_trans h1.size h2.size
theorem RFr.toBelow {w w' : World} {r B : Nat} {v v' : Value} (h : RFr w w' r v v') (hB : B ≤ w.heap.size) (hr : B ≤ r) (hg : ∀ g, v.ownBlock = some g → B ≤ g) : Below B w w' :=
  ⟨h.os, h.tape, h.output, h.size, fun k hk => h.block k (by omega) (by omega) (fun e => by have := hg k e; omega)⟩
/-- A step of both. -/
theorem Both.step {B : Nat} {w w1 w2 : World} {Q p b r : Nat} {v v' : Value} {l l' : List Ent} (h : Both B w Q p b r v l) (hB : B ≤ w.heap.size) (ht : Turned b w w1) (hM : MeterAt w1 (Q + 1) p b l') (hR : RefAt w2 r v' l') (hF : RFr w1 w2 r v v') :
    Both B w2 (Q + 1) p b r v' l' ∧ Below B w w2 := by
  have hn := h.ne
  have hs1 := ht.size
  refine ⟨⟨⟨?_, ?_⟩, hR, h.pB, h.bB, h.rB, fun g hg => ?_⟩, (ht.below h.bB hB).trans (hF.toBelow (by omega) h.rB h.gB)⟩
  · exact (hF.block p hM.lt hn.1 (fun e => (hn.2.2 p e).1 rfl)).trans hM.box
  · obtain ⟨es, clock, hb, hrest⟩ := hM.own
    exact ⟨es, clock, (hF.block b (Array.getElem?_eq_some_iff.1 hb).1 hn.2.1 (fun e => (hn.2.2 b e).2 rfl)).trans hb, hrest⟩
  · rcases hF.new g hg with e | e
    · exact h.gB g e
    · omega
end Go.Proofs.YtgoeiejdcpoaaaaDoor
