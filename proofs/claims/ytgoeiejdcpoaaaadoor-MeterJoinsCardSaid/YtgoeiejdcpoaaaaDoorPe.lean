/-
  Walk: stevedorelaw04.MeterJoins returns true. No condition beyond the theorems' own hypotheses.
-/
import Derived.Test.YtgoeiejdcpoaaaaDoorPd
namespace Go.Proofs.YtgoeiejdcpoaaaaDoor
open Go.RowKit Go.Maps Go.WideAt Go.WideShapes Go.Sort Fl

theorem own_ne {w : World} {B B' e e' s s' n n' : Nat} {v v' : Value} {xs ys : List Value} (h : w.ownsRow B e s v n xs) (h' : w.ownsRow B' e' s' v' n' ys) (hne : e ≠ e') {g : Nat} (hg : v'.ownBlock = some g) : v.ownBlock ≠ some g := by
  rcases h.2 with ⟨rfl, _⟩ | ⟨g1, cap, cur, rfl, _, hh, _⟩
  · simp [Value.ownBlock]
  · rcases h'.2 with ⟨rfl, _⟩ | ⟨g2, cap', cur', rfl, _, hh', _⟩
    · simp [Value.ownBlock] at hg
    · intro he
      have e1 : g1 = g := by simpa [Value.ownBlock] using he
      have e2 : g2 = g := by simpa [Value.ownBlock] using hg
      subst e1 e2
      rw [hh] at hh'
      injection hh' with hh'
      injection hh' with _ ht
      exact hne ht
set_option maxHeartbeats 6400000 in
set_option maxRecDepth 40000 in
theorem joins_f (A1 A2 A3 : Option Addr) (c1 c2 c3 : Nat) (la lb lc : List Stp) (hla : la.length ≤ maxLen) (hlb : lb.length ≤ maxLen) (hlc : lc.length ≤ maxLen) (hza : ∀ x ∈ la, x.1.size ≤ reachBytes) (hzb : ∀ x ∈ lb, x.1.size ≤ reachBytes) (hzc : ∀ x ∈ lc, x.1.size ≤ reachBytes) (w : World) (hSa : StepsAt w A1 la) (hSb : StepsAt w A2 lb) (hSc : StepsAt w A3 lc) :
    Calls Tryd.prog 4 #[.slice A1 la.length c1, .slice A2 lb.length c2, .slice A3 lc.length c3, .bool false] w fun e w' => e = .returned (.bool true) ∧ Below w.heap.size w w' := by
  have HH1 := Lib.hid (heavy_any A1 c1 la hla hza w hSa)
  have HH2 := Lib.hid (heavy_any A2 c2 lb hlb hzb w hSb)
  have HH3 := Lib.hid (heavy_any A3 c3 lc hlc hzc w hSc)
  have HF1 := Lib.hid (fun (h : la.length ≤ 1000) => filled_any A1 c1 la h w hSa)
  have HF2 := Lib.hid (fun (h : lb.length ≤ 1000) W (hb : Below w.heap.size w W) => filled_any A2 c2 lb h W (hSb.kept hb))
  have HF3 := Lib.hid (fun (h : lc.length ≤ 1000) W (hb : Below w.heap.size w W) => filled_any A3 c3 lc h W (hSc.kept hb))
  have HAL := Lib.hid (fun B Q p b r v l h W hB => alike_any B Q p b r v l h W hB)
  have HG1 := Lib.hid (good_joinL (xsOf false la lb lc) (good_playL la))
  have HG2 := Lib.hid (good_playL lb)
  have HG3 := Lib.hid (good_playL lc)
  obtain ⟨i0, hi, hz0, hz1, hz2⟩ := info_parts info25
  obtain ⟨i1, hj, hy0, hy1, hy2⟩ := info_parts info26
  clear hla hlb hlc hza hzb hzc hSa hSb hSc
  go_enter Tryd.func4, Tryd.ntmps4
  go_wp2_with (first
    | (go_at_call 8; have hq := HE; clear hq; refine (works_any _).mono ?_; rintro e w9 ⟨rfl, hb9⟩; have HB9 := Lib.hid (HJB.out.bel.trans (hb9.mono HJB.out.bel.size)); clear hb9)
    | (go_at_call 10; have hq := HJN; clear hq; refine (HAL.out _ _ _ _ _ _ _ HG1.out _ HJN.out.a).mono ?_; rintro e wB ⟨rfl, hbB⟩; have HJB := Lib.hid (HJN.out.kept hbB); have HE := Lib.hid trivial; clear hbB)
    | (go_at_call 14; have hq := HJA; clear hq; have hn := (HJA.out.kept ((Below.refl _ _).alloc (Nat.le_refl _) (.cells #[.pointer (some ⟨p2, 0, none⟩), .pointer none] 25))); have HJN := Lib.hid hn; refine (join_none wA.heap.size p1 b7 p2 2 _ hn.a.mt.cell (World.cell?_alloc_new wA #[.pointer (some ⟨p2, 0, none⟩), .pointer none] 25 0) (World.cell?_alloc_new wA #[.pointer (some ⟨p2, 0, none⟩), .pointer none] 25 1)).mono ?_; clear hn; rintro e w' ⟨rfl, rfl⟩)
    | (go_at_call 10; have hq := HJ9; clear hq; refine (HAL.out _ _ _ _ _ _ _ HG3.out _ HJ9.out.c).mono ?_; rintro e wA ⟨rfl, hbA⟩; have HJA := Lib.hid (HJ9.out.kept hbA); clear hbA)
    | (go_at_call 10; have hq := HJ8; clear hq; refine (HAL.out _ _ _ _ _ _ _ HG2.out _ HJ8.out.b).mono ?_; rintro e w9 ⟨rfl, hb9⟩; have HJ9 := Lib.hid (HJ8.out.kept hb9); clear hb9)
    | (go_at_call 10; have hq := HJ7; clear hq; refine (HAL.out _ _ _ _ _ _ _ HG1.out _ HJ7.out.a).mono ?_; rintro e w8 ⟨rfl, hb8⟩; have HJ8 := Lib.hid (HJ7.out.kept hb8); clear hb8)
    | (go_at_call 15; have hq := HJ6; clear hq; refine ((HT4.out.kept (below2 _ _ _)).rjoin_f (w4.heap.size + 1) 2 (by omega) (by have := ptrs_two (w4.alloc (.cells #[.pointer (some ⟨p2, 0, none⟩), .pointer (some ⟨p3, 0, none⟩)] 25)) r2 r3 26; simpa using this) HJ6.out).mono ?_; rintro e w7 ⟨rfl, Q7, b7, v7, hJ7⟩; have HJ7 := Lib.hid hJ7; clear hJ7)
    | (go_at_call 14; have hq := HT4; clear hq; refine ((HT4.out.kept (below2 _ _ _)).mjoin_f (by omega) w4.heap.size 2 ((ptrs_two w4 p2 p3 25).kept ((Below.refl _ _).alloc (Nat.le_refl _) _))).mono ?_; rintro e w6 hj6; obtain rfl := hj6.at; have HJ6 := Lib.hid hj6; clear hj6)
    | (go_at_call 9; have hq := HBO3; clear hq; refine (HF3.out (by omega) _ HB3.out).mono ?_; rintro e w4 ⟨p3, b3, r3, v3, rfl, hbo4, hb4⟩; have HT4 : Hid (Three w w2.heap.size w3.heap.size w4.heap.size w4 la lb lc p1 b1 r1 v1 p2 b2 r2 v2 p3 b3 r3 v3) := Lib.hid ⟨(HBO2.out.kept HBB3.out).kept hb4, HBO3.out.kept hb4, hbo4, HBO2.out.mt.lt, HBO2.out.rf.lt, HB2.out.size, HBB3.out.size, hb4.size, Nat.le_refl _, HB3.out.trans (hb4.mono HB3.out.size)⟩; clear hbo4 hb4)
    | (go_at_call 9; have hq := HBO2; clear hq; refine (HF2.out (by omega) _ HB2.out).mono ?_; rintro e w3 ⟨p2, b2, r2, v2, rfl, hbo3, hb3⟩; have HBO3 := Lib.hid hbo3; have HBB3 := Lib.hid hb3; have HB3 := Lib.hid (HB2.out.trans (hb3.mono HB2.out.size)); clear hbo3 hb3)
    | (go_at_call 9; refine (HF1.out (by omega)).mono ?_; rintro e w2 ⟨p1, b1, r1, v1, rfl, hbo2, hb2⟩; have HBO2 := Lib.hid hbo2; have HB2 := Lib.hid hb2; clear hbo2 hb2)
    | (go_at_call 8; refine (works_any _).mono ?_; rintro e w9 ⟨rfl, hb9⟩; have HB9 := Lib.hid hb9; clear hb9)
    | (go_at_call 7; have hq := HL2; clear hq; refine HH3.out.mono ?_; rintro e w' ⟨⟨b, rfl, hb⟩, rfl⟩; cases b; (have hl3 := hb rfl; have HL3 := Lib.hid hl3; clear hb))
    | (go_at_call 7; have hq := HL1; clear hq; refine HH2.out.mono ?_; rintro e w' ⟨⟨b, rfl, hb⟩, rfl⟩; cases b; (have hl2 := hb rfl; have HL2 := Lib.hid hl2; clear hb))
    | (go_at_call 7; refine HH1.out.mono ?_; rintro e w' ⟨⟨b, rfl, hb⟩, rfl⟩; cases b; (have hl1 := hb rfl; have HL1 := Lib.hid hl1; clear hb)))
  all_goals go_ret
  all_goals exact ⟨rfl, HB9.out⟩
set_option maxHeartbeats 6400000 in
set_option maxRecDepth 40000 in
theorem joins_t (A1 A2 A3 : Option Addr) (c1 c2 c3 : Nat) (la lb lc : List Stp) (hla : la.length ≤ maxLen) (hlb : lb.length ≤ maxLen) (hlc : lc.length ≤ maxLen) (hza : ∀ x ∈ la, x.1.size ≤ reachBytes) (hzb : ∀ x ∈ lb, x.1.size ≤ reachBytes) (hzc : ∀ x ∈ lc, x.1.size ≤ reachBytes) (w : World) (hSa : StepsAt w A1 la) (hSb : StepsAt w A2 lb) (hSc : StepsAt w A3 lc) :
    Calls Tryd.prog 4 #[.slice A1 la.length c1, .slice A2 lb.length c2, .slice A3 lc.length c3, .bool true] w fun e w' => e = .returned (.bool true) ∧ Below w.heap.size w w' := by
  have HH1 := Lib.hid (heavy_any A1 c1 la hla hza w hSa)
  have HH2 := Lib.hid (heavy_any A2 c2 lb hlb hzb w hSb)
  have HH3 := Lib.hid (heavy_any A3 c3 lc hlc hzc w hSc)
  have HF1 := Lib.hid (fun (h : la.length ≤ 1000) => filled_any A1 c1 la h w hSa)
  have HF2 := Lib.hid (fun (h : lb.length ≤ 1000) W (hb : Below w.heap.size w W) => filled_any A2 c2 lb h W (hSb.kept hb))
  have HF3 := Lib.hid (fun (h : lc.length ≤ 1000) W (hb : Below w.heap.size w W) => filled_any A3 c3 lc h W (hSc.kept hb))
  have HAL := Lib.hid (fun B Q p b r v l h W hB => alike_any B Q p b r v l h W hB)
  have HG1 := Lib.hid (good_joinL (xsOf true la lb lc) (good_playL la))
  have HG2 := Lib.hid (good_playL lb)
  have HG3 := Lib.hid (good_playL lc)
  obtain ⟨i0, hi, hz0, hz1, hz2⟩ := info_parts info25
  obtain ⟨i1, hj, hy0, hy1, hy2⟩ := info_parts info26
  clear hla hlb hlc hza hzb hzc hSa hSb hSc
  go_enter Tryd.func4, Tryd.ntmps4
  go_wp2_with (first
    | (go_at_call 8; have hq := HE; clear hq; refine (works_any _).mono ?_; rintro e w9 ⟨rfl, hb9⟩; have HB9 := Lib.hid (HJB.out.bel.trans (hb9.mono HJB.out.bel.size)); clear hb9)
    | (go_at_call 10; have hq := HJN; clear hq; refine (HAL.out _ _ _ _ _ _ _ HG1.out _ HJN.out.a).mono ?_; rintro e wB ⟨rfl, hbB⟩; have HJB := Lib.hid (HJN.out.kept hbB); have HE := Lib.hid trivial; clear hbB)
    | (go_at_call 14; have hq := HJA; clear hq; have hn := (HJA.out.kept ((Below.refl _ _).alloc (Nat.le_refl _) (.cells #[.pointer (some ⟨p2, 0, none⟩), .pointer none] 25))); have HJN := Lib.hid hn; refine (join_none wA.heap.size p1 b7 p2 2 _ hn.a.mt.cell (World.cell?_alloc_new wA #[.pointer (some ⟨p2, 0, none⟩), .pointer none] 25 0) (World.cell?_alloc_new wA #[.pointer (some ⟨p2, 0, none⟩), .pointer none] 25 1)).mono ?_; clear hn; rintro e w' ⟨rfl, rfl⟩)
    | (go_at_call 10; have hq := HJ9; clear hq; refine (HAL.out _ _ _ _ _ _ _ HG3.out _ HJ9.out.c).mono ?_; rintro e wA ⟨rfl, hbA⟩; have HJA := Lib.hid (HJ9.out.kept hbA); clear hbA)
    | (go_at_call 10; have hq := HJ8; clear hq; refine (HAL.out _ _ _ _ _ _ _ HG2.out _ HJ8.out.b).mono ?_; rintro e w9 ⟨rfl, hb9⟩; have HJ9 := Lib.hid (HJ8.out.kept hb9); clear hb9)
    | (go_at_call 10; have hq := HJ7; clear hq; refine (HAL.out _ _ _ _ _ _ _ HG1.out _ HJ7.out.a).mono ?_; rintro e w8 ⟨rfl, hb8⟩; have HJ8 := Lib.hid (HJ7.out.kept hb8); clear hb8)
    | (go_at_call 15; have hq := HJ6; clear hq; refine ((HT4.out.kept HB5.out).rjoin_t gb capb HGB.out HPB.out HJ6.out).mono ?_; rintro e w7 ⟨rfl, Q7, b7, v7, hJ7⟩; have HJ7 := Lib.hid hJ7; clear hJ7)
    | (go_at_call 14; have hq := HT4; clear hq; refine ((HT4.out.kept HB5.out).mjoin_t (by omega) ga capa (ptrs_own (qs := [some p2, some p3, some p1]) hownA.out)).mono ?_; rintro e w6 hj6; obtain rfl := hj6.at; have HJ6 := Lib.hid hj6; clear hj6)
    | (at_builtin; have hq := HOA; clear hq; refine wp_app rfl (.tmp 70) (.tmp 72) 36 rfl (w4.heap.size + 1) 26 i1 _ 1 8 Tryd.underlying36 hj hy0 hy1 hy2 rfl (by decide) (.slice (some ⟨w4.heap.size + 1, 0, none⟩) 2 2) 2 [.pointer (some ⟨r2, 0, none⟩), .pointer (some ⟨r3, 0, none⟩)] rfl (HOB.out.alloc _) ⟨w5.heap.size, 0, none⟩ 1 1 [.pointer (some ⟨r1, 0, none⟩)] rfl rfl (cells_new _ _ _ _ rfl) (by simp [Value.oneCell']) 3 _ rfl (by omega) rfl (by unfold maxLen; omega) (by omega) (by have := (HOB.out.lt (w4.heap.size + 1) rfl).2; simp; omega) ?_; intro gb capb wZ hownb hbZ hgZ; have HGB : Hid (w4.heap.size ≤ gb) := Lib.hid (by have := (hownb.lt gb rfl).1; omega); have hpb : PtrsAt wZ gb [some r2, some r3, some r1] := ptrs_own hownb; have HPB := Lib.hid hpb; have hne0 : (Value.slice (some ⟨ga, 0, none⟩) 3 capa).ownBlock ≠ some (w4.heap.size + 1) := own_ne HOA.out HOB.out (by decide) rfl; have hownA := Lib.hid ((HOA.out.alloc _).kept hgZ (.inr hne0)); have HB5 := Lib.hid ((HB5a.out.alloc HB5a.out.size _).trans (hbZ.mono (by omega))); clear hownb hbZ hgZ)
    | (at_builtin; have hq := HT4; clear hq; refine wp_app rfl (.tmp 66) (.tmp 68) 35 rfl w4.heap.size 25 i0 _ 1 8 Tryd.underlying35 hi hz0 hz1 hz2 rfl (by decide) (.slice (some ⟨w4.heap.size, 0, none⟩) 2 2) 2 [.pointer (some ⟨p2, 0, none⟩), .pointer (some ⟨p3, 0, none⟩)] rfl (((World.ownsRow_lit (base := w4.heap.size) (size := 1) w4 #[.pointer (some ⟨p2, 0, none⟩), .pointer (some ⟨p3, 0, none⟩)] 2 (Nat.le_refl _) (by unfold maxLen; omega) rfl).alloc _).alloc _) ⟨w4.heap.size + 2, 0, none⟩ 1 1 [.pointer (some ⟨p1, 0, none⟩)] rfl rfl (cells_new _ _ _ _ (by simp)) (by simp [Value.oneCell']) 3 _ rfl (by omega) rfl (by unfold maxLen; omega) (by omega) (by simp; omega) ?_; intro ga capa w5 howna hb5 hg5; have HOA := Lib.hid howna; have HBA := Lib.hid hb5; have HOB : Hid (w5.ownsRow (w4.heap.size + 1) 26 1 (.slice (some ⟨w4.heap.size + 1, 0, none⟩) 2 2) 2 [.pointer (some ⟨r2, 0, none⟩), .pointer (some ⟨r3, 0, none⟩)]) := Lib.hid (by have hob := ((World.ownsRow_lit (base := w4.heap.size + 1) (size := 1) (e := 26) (w4.alloc (.cells #[.pointer (some ⟨p2, 0, none⟩), .pointer (some ⟨p3, 0, none⟩)] 25)) #[.pointer (some ⟨r2, 0, none⟩), .pointer (some ⟨r3, 0, none⟩)] 2 (by simp) (by unfold maxLen; omega) rfl).alloc _).kept hg5 (.inr (by simp [Value.ownBlock])); simpa using hob); have HB5a := Lib.hid (((below2 w4 _ _).alloc (by simp; omega) _).trans hb5); clear howna hb5 hg5)
    | (go_at_call 9; have hq := HBO3; clear hq; refine (HF3.out (by omega) _ HB3.out).mono ?_; rintro e w4 ⟨p3, b3, r3, v3, rfl, hbo4, hb4⟩; have HT4 : Hid (Three w w2.heap.size w3.heap.size w4.heap.size w4 la lb lc p1 b1 r1 v1 p2 b2 r2 v2 p3 b3 r3 v3) := Lib.hid ⟨(HBO2.out.kept HBB3.out).kept hb4, HBO3.out.kept hb4, hbo4, HBO2.out.mt.lt, HBO2.out.rf.lt, HB2.out.size, HBB3.out.size, hb4.size, Nat.le_refl _, HB3.out.trans (hb4.mono HB3.out.size)⟩; clear hbo4 hb4)
    | (go_at_call 9; have hq := HBO2; clear hq; refine (HF2.out (by omega) _ HB2.out).mono ?_; rintro e w3 ⟨p2, b2, r2, v2, rfl, hbo3, hb3⟩; have HBO3 := Lib.hid hbo3; have HBB3 := Lib.hid hb3; have HB3 := Lib.hid (HB2.out.trans (hb3.mono HB2.out.size)); clear hbo3 hb3)
    | (go_at_call 9; refine (HF1.out (by omega)).mono ?_; rintro e w2 ⟨p1, b1, r1, v1, rfl, hbo2, hb2⟩; have HBO2 := Lib.hid hbo2; have HB2 := Lib.hid hb2; clear hbo2 hb2)
    | (go_at_call 8; refine (works_any _).mono ?_; rintro e w9 ⟨rfl, hb9⟩; have HB9 := Lib.hid hb9; clear hb9)
    | (go_at_call 7; have hq := HL2; clear hq; refine HH3.out.mono ?_; rintro e w' ⟨⟨b, rfl, hb⟩, rfl⟩; cases b; (have hl3 := hb rfl; have HL3 := Lib.hid hl3; clear hb))
    | (go_at_call 7; have hq := HL1; clear hq; refine HH2.out.mono ?_; rintro e w' ⟨⟨b, rfl, hb⟩, rfl⟩; cases b; (have hl2 := hb rfl; have HL2 := Lib.hid hl2; clear hb))
    | (go_at_call 7; refine HH1.out.mono ?_; rintro e w' ⟨⟨b, rfl, hb⟩, rfl⟩; cases b; (have hl1 := hb rfl; have HL1 := Lib.hid hl1; clear hb)))
  all_goals go_ret
  all_goals exact ⟨rfl, HB9.out⟩
end Go.Proofs.YtgoeiejdcpoaaaaDoor
