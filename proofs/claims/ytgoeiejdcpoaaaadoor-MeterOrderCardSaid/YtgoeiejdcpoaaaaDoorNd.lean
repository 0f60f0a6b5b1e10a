/-
  Walks: the document's meter: Add of a new counter. Part of the proofs of the meter's statements. No condition beyond the theorems' own hypotheses.
-/
import Derived.Test.YtgoeiejdcpoaaaaDoorNc
import Derived.Laws.AppendOwnNone
import Derived.Laws.OwnMore
namespace Go.Proofs.YtgoeiejdcpoaaaaDoor
open Go.RowKit Go.Maps Go.WideAt Go.WideShapes Go.Sort Fl

/-- But for the document's meter at r, whose slice is v, what lay is as it was; its slice is v' now. -/
structure RFr (w w' : World) (r : Nat) (v v' : Value) : Prop where
  os : w'.os = w.os
  tape : w'.tape = w.tape
  output : w'.output = w.output
  size : w.heap.size ≤ w'.heap.size
  block : ∀ k, k < w.heap.size → k ≠ r → v.ownBlock ≠ some k → w'.heap[k]? = w.heap[k]?
  new : ∀ g, v'.ownBlock = some g → v.ownBlock = some g ∨ w.heap.size ≤ g
theorem less_eq : ∀ (x y : List UInt8), Op.bytesLess x y = bytesBefore x y
  | [], [] => rfl
  | [], _ :: _ => rfl
  | _ :: _, [] => rfl
  | a :: x, b :: y => by
    show (_ || (_ && Op.bytesLess x y)) = (_ || (_ && bytesBefore x y))
    rw [less_eq x y]
theorem less_toList {l : List UInt8} {s : ByteArray} {b : Bool} (h : bytesBefore l s.data.toList = b) : Op.bytesLess l s.toList = b := by
  rw [less_eq, ByteArray.toList_eq]
  exact h
/-- The document's meter gets a slice that is new. -/
theorem RefAt.set_ {w W : World} {r : Nat} {v v' : Value} {l l' : List Ent} (h : RefAt w r v l) (hb : Below w.heap.size w W) (ho : W.ownsRow w.heap.size 49 3 v' l'.length (cnts l')) (hn : l' ≠ []) :
    RefAt (W.setCell ⟨r, 0, none⟩ v') r v' l' ∧ RFr w (W.setCell ⟨r, 0, none⟩ v') r v v' := by
  have hlt := h.lt
  have hbox : W.heap[r]? = some (.cells #[v] 58 (0, 0)) := (hb.block r hlt).trans h.box
  have hne : ∀ g, v'.ownBlock = some g → w.heap.size ≤ g := fun g hg => (ho.lt g hg).1
  have hother : ∀ k, k ≠ r → (W.setCell ⟨r, 0, none⟩ v').heap[k]? = W.heap[k]? := fun k hk => by
    simp [World.setCell, Array.getElem?_modify, Ne.symm hk]
  refine ⟨⟨?_, ?_, fun e => absurd e hn⟩, ⟨?_, ?_, ?_, ?_, ?_, fun g hg => .inr (hne g hg)⟩⟩
  · simp [World.setCell, Array.getElem?_modify, hbox]
  · refine ⟨ho.1, ?_⟩
    rcases ho.2 with hn | ⟨g, cap, cur, rfl, hbase, hg, hrest⟩
    · exact .inl hn
    · have := hne g rfl
      exact .inr ⟨g, cap, cur, rfl, Nat.zero_le _, (hother g (by omega)).trans hg, hrest⟩
  · exact hb.os
  · exact hb.tape
  · exact hb.output
  · simpa [World.setCell] using hb.size
  · intro k hk hkr _
    exact (hother k hkr).trans (hb.block k hk)
theorem none_own (w : World) (B : Nat) : w.ownsRow B 49 3 (.slice none 0 0) 0 [] := World.ownsRow_nil _ _ _ _
theorem cell_up {w W : World} {r : Nat} {v : Value} {l : List Ent} (h : RefAt w r v l) (hb : Below w.heap.size w W) : W.cell? ⟨r, 0, none⟩ = some v ∧ W.frozen? ⟨r, 0, none⟩ = false :=
  ⟨(hb.cell (p := ⟨r, 0, none⟩) h.lt).trans h.cell, (hb.frozen (p := ⟨r, 0, none⟩) h.lt).trans h.fz⟩
theorem row_take {w : World} {g : Nat} {l : List Ent} (hg : g < w.heap.size) (h : ∀ (k : Nat) (e : Ent), l[k]? = some e → ∀ j, j < 3 → w.cell? ⟨g, k * 3 + j, none⟩ = (cnt e)[j]?) (k : Nat) (W : World) (hb : Below w.heap.size w W) :
    ∀ j u, (cnts (l.take k))[j]? = some u → W.cell? ((⟨g, 0, none⟩ : Addr).add j) = some u := by
  intro j u hu
  rw [← cnts_take] at hu
  have hj : (cnts l)[j]? = some u := by
    rw [List.getElem?_take] at hu
    split at hu
    · exact hu
    · cases hu
  have hjl : j < l.length * 3 := by rw [← cnts_len]; exact (List.getElem?_eq_some_iff.1 hj).1
  obtain ⟨e, he⟩ : ∃ e, l[j / 3]? = some e := ⟨l[j / 3]'(by omega), List.getElem?_eq_getElem (by omega)⟩
  have h1 := cnts_at l (j / 3) e he (j % 3) (by omega)
  have h2 := h (j / 3) e he (j % 3) (by omega)
  rw [show j / 3 * 3 + j % 3 = j by omega] at h1 h2
  rw [Addr.add_lit, Nat.zero_add]
  exact (hb.cell (p := ⟨g, j, none⟩) hg).trans (h2.trans (h1.symm.trans hj))
theorem row_drop {w : World} {g : Nat} {l : List Ent} (hg : g < w.heap.size) (h : ∀ (k : Nat) (e : Ent), l[k]? = some e → ∀ j, j < 3 → w.cell? ⟨g, k * 3 + j, none⟩ = (cnt e)[j]?) (k : Nat) (W : World) (hb : Below w.heap.size w W) :
    ∀ j u, (cnts (l.drop k))[j]? = some u → W.cell? ((⟨g, k * 3, none⟩ : Addr).add j) = some u := by
  intro j u hu
  rw [← cnts_drop, List.getElem?_drop] at hu
  have := row_take hg h l.length W hb (k * 3 + j) u (by rw [List.take_length]; exact hu)
  rw [Addr.add_lit] at this ⊢
  simpa using this
set_option maxHeartbeats 1600000 in
set_option maxRecDepth 20000 in
theorem radd_new (r : Nat) (v : Value) (l : List Ent) (w : World) (hR : RefAt w r v l) (s : ByteArray) (hm : mayB s.data.toList = true) (a c : Nat) (ha : a ≤ 4503599627370496) (hc : c ≤ 4503599627370496)
    (hno : hasE l s.data.toList = false) (hf : l.length < 64) :
    Calls Tryd.prog 23 #[.pointer (some ⟨r, 0, none⟩), .string s, .int .i64 a, .int .i64 c] w fun e w' => e = .returned (.int .i64 0) ∧ ∃ v', RefAt w' r v' (putE (s.data.toList, a, c) l) ∧ RFr w w' r v v' := by
  have HM := Lib.hid (rmay_any s (small hm))
  have HA := Lib.hid (at_no r v l (by omega) w hR s hno)
  have HE := Lib.hid hm
  have a1 : decide ((4503599627370496 : Int) < (a : Int)) = false := by simp; omega
  have c1 : decide ((4503599627370496 : Int) < (c : Int)) = false := by simp; omega
  have a0 : decide ((a : Int) < 0) = false := by simp
  have c0 : decide ((c : Int) < 0) = false := by simp
  have hc0 := hR.cell
  have hfz0 := hR.fz
  have hss : (⟨s.data.toList.toArray⟩ : ByteArray) = s := by simp
  have hx : cnt (s.data.toList, a, c) = [.string s, .int .i64 a, .int .i64 c] := by simp only [cnt]
  obtain ⟨i0, hi, hz0, hz1, hz2⟩ := info_parts info49
  have HR := Lib.hid hR
  have HX := Lib.hid hx
  have HP := Lib.hid (putE_new (s.data.toList, a, c) l hno)
  rcases hR.shape with ⟨rfl, rfl⟩ | ⟨g, cap, hne, rfl, hcap, hcm, hgr, hgl, hfz, hcell⟩
  · clear hm hno hR ha hc hf hss hx
    go_enter Tryd.func23, Tryd.ntmps23
    go_wp2_with (first
      | (go_at_call 11; refine HA.out.mono ?_; rintro e w' ⟨rfl, rfl⟩)
      | (go_at_call 16; refine (HM.out _).mono ?_; rintro e w' ⟨rfl, rfl⟩; rw [HE.out]))
    go_loop [10] (fun u => u = .int .i64 0) (fun _ => 0)
    case atStart => rfl
    case round =>
     subst hrel
     go_wp2_with (first
      | (at_builtin; refine wpList_append_own_none rfl (.tmp 80) (.tmp 86) 46 rfl w.heap.size 49 i0 3 Tryd.underlying46 hi _ 1 (cnt (s.data.toList, a, c)) rfl hown2 rfl ?_)
      | (at_builtin; refine wp_app rfl (.tmp 72) (.tmp 77) 46 rfl w.heap.size 49 i0 _ 3 32 Tryd.underlying46 hi hz0 hz1 hz2 rfl (by decide) _ 0 [] rfl (none_own _ _) ⟨w.heap.size, 0, none⟩ 1 1 (cnt (s.data.toList, a, c)) rfl rfl (by rw [HX.out]; exact cells_new _ _ _ _ rfl) (by rw [HX.out]; simp [Value.oneCell']) 1 (cnt (s.data.toList, a, c)) rfl (by omega) rfl (by unfold maxLen; omega) (by omega) (by simp) ?_; intro g2 cap2 w2 hown2 hb2 hg2; have HB2 := Lib.hid (((Below.refl w.heap.size w).alloc (Nat.le_refl _) _).trans hb2); have hcu := cell_up HR.out HB2.out; obtain ⟨hcu1, hcu2⟩ := hcu; clear hg2))
     go_ret
     refine ⟨rfl, _, HR.out.set_ HB2.out ?_ ?_⟩
     · rw [HP.out]
       simpa [posE, cnts] using hown2
     · rw [HP.out]
       simp
  · have hf' : decide ((64 : Int) ≤ (l.length : Int)) = false := by simp; omega
    have hlt := Lib.hid (posE_lt s.data.toList l)
    have hat := Lib.hid (posE_at s.data.toList l)
    have hle := posE_le l s.data.toList
    have HC := Lib.hid hcell
    have HT := Lib.hid (fun k => row_take hgl hcell k)
    have HD := Lib.hid (fun k => row_drop hgl hcell k)
    clear hm hno hR hcell hfz hne ha hc hss hx
    unfold maxLen at hcm
    generalize posE l s.data.toList = p at *
    go_enter Tryd.func23, Tryd.ntmps23
    go_wp2_with (first
      | (go_at_call 11; refine HA.out.mono ?_; rintro e w' ⟨rfl, rfl⟩)
      | (go_at_call 16; refine (HM.out _).mono ?_; rintro e w' ⟨rfl, rfl⟩; rw [HE.out]))
    go_loop [10] (fun u => ∃ k : Nat, k ≤ p ∧ u = .int .i64 k) (fun u => p - (intOf u).toNat)
    case atStart => exact ⟨0, Nat.zero_le _, rfl⟩
    case round =>
      obtain ⟨k, hk, rfl⟩ := hrel
      by_cases hkp : k < p
      · have hk1 : (k : Int) < (l.length : Int) := by omega
        have hk0 : (0 : Int) ≤ (k : Int) := by omega
        obtain ⟨e', he'⟩ : ∃ e, l[k]? = some e := ⟨l[k], List.getElem?_eq_getElem (by omega)⟩
        have q0 := HC.out k e' he' 0 (by omega)
        simp only [cnt, List.getElem?_cons_zero, Nat.add_zero] at q0
        have hx := less_toList (hlt.out k hkp e' he')
        clear he'
        go_wp2
        go_round
        case rel => exact ⟨k + 1, by omega, by go_num⟩
        case measure => simp [intOf]; omega
      · obtain rfl : k = p := by omega
        clear hkp
        have hkc : (k : Int) ≤ (cap : Int) := by omega
        have hk0 : (0 : Int) ≤ (k : Int) := by omega
        by_cases hkl : k < l.length
        · have hk1 : (k : Int) < (l.length : Int) := by omega
          obtain ⟨e', he'⟩ : ∃ e, l[k]? = some e := ⟨l[k], List.getElem?_eq_getElem (by omega)⟩
          have q0 := HC.out k e' he' 0 (by omega)
          simp only [cnt, List.getElem?_cons_zero, Nat.add_zero] at q0
          have hx := less_toList (hat.out e' he')
          clear he'
          by_cases hkc2 : cap = k
          · omega
          · go_wp2_with (first
              | (at_builtin; refine wp_app rfl (.tmp 80) (.tmp 86) 46 rfl w.heap.size 49 i0 _ 3 32 Tryd.underlying46 hi hz0 hz1 hz2 rfl (by decide) _ (k + 1) (cnts (l.take k) ++ cnt (s.data.toList, a, c)) rfl hown2.out ⟨g, k * 3, none⟩ (l.length - k) (cap - k) (cnts (l.drop k)) rfl (by rw [cnts_len, List.length_drop]) (HD.out k _ HB2.out) (cnts_one _) (l.length + 1) (cnts (l.take k) ++ cnt (s.data.toList, a, c) ++ cnts (l.drop k)) (by omega) (by omega) rfl (by unfold maxLen; omega) (by omega) HB2.out.size ?_; intro g3 cap3 w3 hown3 hb3 hg3; have HB3 := Lib.hid (HB2.out.trans hb3); obtain ⟨hcu3, hcu4⟩ := cell_up HR.out HB3.out; clear hg3)
              | (at_builtin; refine wp_app rfl (.tmp 72) (.tmp 77) 46 rfl w.heap.size 49 i0 _ 3 32 Tryd.underlying46 hi hz0 hz1 hz2 rfl (by decide) _ k (cnts (l.take k)) rfl (hown1.out.alloc _) ⟨w1.heap.size, 0, none⟩ 1 1 (cnt (s.data.toList, a, c)) rfl rfl (by rw [HX.out]; exact cells_new _ _ _ _ rfl) (by rw [HX.out]; simp [Value.oneCell']) (k + 1) (cnts (l.take k) ++ cnt (s.data.toList, a, c)) rfl (by omega) rfl (by unfold maxLen; omega) (by omega) (by have := HB1.out.size; simp; omega) ?_; intro g2 cap2 w2 hown2 hb2 hg2; have HB2 := Lib.hid ((HB1.out.alloc HB1.out.size _).trans hb2); have hown2 := Lib.hid hown2; obtain ⟨hcu1, hcu2⟩ := cell_up HR.out HB2.out; clear hg2 hb2)
              | (at_builtin; refine wpList_append_own _ rfl (.tmp 64) (.tmp 70) 46 rfl w.heap.size 49 i0 _ 3 32 Tryd.underlying46 hi hz0 hz1 hz2 rfl (by decide) (.slice none 0 0) 0 [] rfl (none_own _ _) ⟨g, 0, none⟩ k cap (cnts (l.take k)) rfl (by rw [cnts_len, List.length_take, Nat.min_eq_left (by omega)]) (HT.out k _ (Below.refl _ _)) (cnts_one _) (by unfold maxLen; omega) (by omega) (Nat.le_refl _) ?_; intro v1 w1 hown1 hg1 hn1; have HB1 := Lib.hid ((Below.refl w.heap.size w).grown hg1 (Nat.le_refl _) (by simp [Value.ownBlock])); have hown1 := Lib.hid (by simpa using hown1 : w1.ownsRow w.heap.size 49 3 v1 k (cnts (l.take k))); obtain ⟨hcv1, hcv2⟩ := cell_up HR.out HB1.out; clear hg1 hn1))
            go_ret
            refine ⟨rfl, _, HR.out.set_ HB3.out ?_ ?_⟩
            · have e1 : (l.take k ++ (s.data.toList, a, c) :: l.drop k).length = l.length + 1 := by simp; omega
              rw [HP.out, e1, cnts_append]
              have e2 : cnts ((s.data.toList, a, c) :: l.drop k) = cnt (s.data.toList, a, c) ++ cnts (l.drop k) := by simp [cnts]
              rw [e2, ← List.append_assoc]
              exact hown3
            · rw [HP.out]
              simp
        · have HKN := Lib.hid (by omega : k = l.length)
          have hll : l.length ≤ k := by omega
          clear hkl
          have hk1 : decide ((k : Int) < (l.length : Int)) = false := by simp; omega
          by_cases hkc2 : cap = k
          · subst hkc2
            go_wp2_with (first
            | (at_builtin; refine wp_app rfl (.tmp 80) (.tmp 86) 46 rfl w.heap.size 49 i0 _ 3 32 Tryd.underlying46 hi hz0 hz1 hz2 rfl (by decide) _ (cap + 1) (cnts (l.take cap) ++ cnt (s.data.toList, a, c)) rfl hown2.out ⟨g, 0, none⟩ _ _ (cnts (l.drop cap)) rfl (by rw [cnts_len, List.length_drop]; omega) (by rw [List.drop_of_length_le (by omega)]; intro j u h; simp [cnts] at h) (cnts_one _) (l.length + 1) (cnts (l.take cap) ++ cnt (s.data.toList, a, c) ++ cnts (l.drop cap)) (by omega) (by omega) rfl (by unfold maxLen; omega) (by omega) HB2.out.size ?_; intro g3 cap3 w3 hown3 hb3 hg3; have HB3 := Lib.hid (HB2.out.trans hb3); obtain ⟨hcu3, hcu4⟩ := cell_up HR.out HB3.out; clear hg3)
            | (at_builtin; refine wp_app rfl (.tmp 72) (.tmp 77) 46 rfl w.heap.size 49 i0 _ 3 32 Tryd.underlying46 hi hz0 hz1 hz2 rfl (by decide) _ cap (cnts (l.take cap)) rfl (hown1.out.alloc _) ⟨w1.heap.size, 0, none⟩ 1 1 (cnt (s.data.toList, a, c)) rfl rfl (by rw [HX.out]; exact cells_new _ _ _ _ rfl) (by rw [HX.out]; simp [Value.oneCell']) (cap + 1) (cnts (l.take cap) ++ cnt (s.data.toList, a, c)) rfl (by omega) rfl (by unfold maxLen; omega) (by omega) (by have := HB1.out.size; simp; omega) ?_; intro g2 cap2 w2 hown2 hb2 hg2; have HB2 := Lib.hid ((HB1.out.alloc HB1.out.size _).trans hb2); have hown2 := Lib.hid hown2; obtain ⟨hcu1, hcu2⟩ := cell_up HR.out HB2.out; clear hg2 hb2)
            | (at_builtin; refine wpList_append_own _ rfl (.tmp 64) (.tmp 70) 46 rfl w.heap.size 49 i0 _ 3 32 Tryd.underlying46 hi hz0 hz1 hz2 rfl (by decide) (.slice none 0 0) 0 [] rfl (none_own _ _) ⟨g, 0, none⟩ cap cap (cnts (l.take cap)) rfl (by rw [cnts_len, List.length_take, Nat.min_eq_left (by omega)]) (HT.out cap _ (Below.refl _ _)) (cnts_one _) (by unfold maxLen; omega) (by omega) (Nat.le_refl _) ?_; intro v1 w1 hown1 hg1 hn1; have HB1 := Lib.hid ((Below.refl w.heap.size w).grown hg1 (Nat.le_refl _) (by simp [Value.ownBlock])); have hown1 := Lib.hid (by simpa using hown1 : w1.ownsRow w.heap.size 49 3 v1 cap (cnts (l.take cap))); obtain ⟨hcv1, hcv2⟩ := cell_up HR.out HB1.out; clear hg1 hn1))
            go_ret
            refine ⟨rfl, _, HR.out.set_ HB3.out ?_ ?_⟩
            · have e1 : (l.take cap ++ (s.data.toList, a, c) :: l.drop cap).length = l.length + 1 := by simp; omega
              rw [HP.out, e1, cnts_append]
              have e2 : cnts ((s.data.toList, a, c) :: l.drop cap) = cnt (s.data.toList, a, c) ++ cnts (l.drop cap) := by simp [cnts]
              rw [e2, ← List.append_assoc]
              exact hown3
            · rw [HP.out]
              simp
          · go_wp2_with (first
            | (at_builtin; refine wp_app rfl (.tmp 80) (.tmp 86) 46 rfl w.heap.size 49 i0 _ 3 32 Tryd.underlying46 hi hz0 hz1 hz2 rfl (by decide) _ (k + 1) (cnts (l.take k) ++ cnt (s.data.toList, a, c)) rfl hown2.out ⟨g, k * 3, none⟩ _ _ (cnts (l.drop k)) rfl (by rw [cnts_len, List.length_drop]; omega) (HD.out k _ HB2.out) (cnts_one _) (l.length + 1) (cnts (l.take k) ++ cnt (s.data.toList, a, c) ++ cnts (l.drop k)) (by omega) (by omega) rfl (by unfold maxLen; omega) (by omega) HB2.out.size ?_; intro g3 cap3 w3 hown3 hb3 hg3; have HB3 := Lib.hid (HB2.out.trans hb3); obtain ⟨hcu3, hcu4⟩ := cell_up HR.out HB3.out; clear hg3)
            | (at_builtin; refine wp_app rfl (.tmp 72) (.tmp 77) 46 rfl w.heap.size 49 i0 _ 3 32 Tryd.underlying46 hi hz0 hz1 hz2 rfl (by decide) _ k (cnts (l.take k)) rfl (hown1.out.alloc _) ⟨w1.heap.size, 0, none⟩ 1 1 (cnt (s.data.toList, a, c)) rfl rfl (by rw [HX.out]; exact cells_new _ _ _ _ rfl) (by rw [HX.out]; simp [Value.oneCell']) (k + 1) (cnts (l.take k) ++ cnt (s.data.toList, a, c)) rfl (by omega) rfl (by unfold maxLen; omega) (by omega) (by have := HB1.out.size; simp; omega) ?_; intro g2 cap2 w2 hown2 hb2 hg2; have HB2 := Lib.hid ((HB1.out.alloc HB1.out.size _).trans hb2); have hown2 := Lib.hid hown2; obtain ⟨hcu1, hcu2⟩ := cell_up HR.out HB2.out; clear hg2 hb2)
            | (at_builtin; refine wpList_append_own _ rfl (.tmp 64) (.tmp 70) 46 rfl w.heap.size 49 i0 _ 3 32 Tryd.underlying46 hi hz0 hz1 hz2 rfl (by decide) (.slice none 0 0) 0 [] rfl (none_own _ _) ⟨g, 0, none⟩ k cap (cnts (l.take k)) rfl (by rw [cnts_len, List.length_take, Nat.min_eq_left (by omega)]) (HT.out k _ (Below.refl _ _)) (cnts_one _) (by unfold maxLen; omega) (by omega) (Nat.le_refl _) ?_; intro v1 w1 hown1 hg1 hn1; have HB1 := Lib.hid ((Below.refl w.heap.size w).grown hg1 (Nat.le_refl _) (by simp [Value.ownBlock])); have hown1 := Lib.hid (by simpa using hown1 : w1.ownsRow w.heap.size 49 3 v1 k (cnts (l.take k))); obtain ⟨hcv1, hcv2⟩ := cell_up HR.out HB1.out; clear hg1 hn1))
            go_ret
            refine ⟨rfl, _, HR.out.set_ HB3.out ?_ ?_⟩
            · have e1 : (l.take k ++ (s.data.toList, a, c) :: l.drop k).length = l.length + 1 := by simp; omega
              rw [HP.out, e1, cnts_append]
              have e2 : cnts ((s.data.toList, a, c) :: l.drop k) = cnt (s.data.toList, a, c) ++ cnts (l.drop k) := by simp [cnts]
              rw [e2, ← List.append_assoc]
              exact hown3
            · rw [HP.out]
              simp
end Go.Proofs.YtgoeiejdcpoaaaaDoor
