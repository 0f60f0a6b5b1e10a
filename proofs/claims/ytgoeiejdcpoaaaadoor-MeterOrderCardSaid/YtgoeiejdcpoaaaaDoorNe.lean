/-
  Walks: the document's meter: Add to a counter that is there, Copy. Part of the proofs of the meter's statements. No condition beyond the theorems' own hypotheses.
-/
import Derived.Test.YtgoeiejdcpoaaaaDoorNd
import Derived.RegionTactic
namespace Go.Proofs.YtgoeiejdcpoaaaaDoor
open Go.RowKit Go.Maps Go.WideAt Go.WideShapes Go.Sort Fl

theorem names_once {l : List Ent} (hs : Srt l) {i j : Nat} {e e' : Ent} (hi : l[i]? = some e) (hj : l[j]? = some e') (hji : j < i) : e'.1 ≠ e.1 := by
  intro h
  obtain ⟨hil, rfl⟩ := List.getElem?_eq_some_iff.1 hi
  obtain ⟨hjl, rfl⟩ := List.getElem?_eq_some_iff.1 hj
  have := List.pairwise_iff_getElem.1 hs j i hjl hil hji
  rw [h, bytes_irrefl] at this
  cases this
theorem RFr.trans {w w' w'' : World} {r : Nat} {v v' v'' : Value} (h : RFr w w' r v v') (k : RFr w' w'' r v' v'') : RFr w w'' r v v'' := by
  refine ⟨k.os.trans h.os, k.tape.trans h.tape, k.output.trans h.output, Nat.le_trans h.size k.size, fun i hi hr hv => ?_, fun g hg => ?_⟩
  · refine (k.block i (Nat.lt_of_lt_of_le hi h.size) hr (fun e => ?_)).trans (h.block i hi hr hv)
    rcases h.new i e with e' | e'
    · exact hv e'
    · omega
  · rcases k.new g hg with e | e
    · exact h.new g e
    · exact .inr (Nat.le_trans h.size e)
theorem RefAt.below {w w' : World} {r : Nat} {v : Value} {l : List Ent} (h : RefAt w r v l) (hb : Below w.heap.size w w') : RefAt w' r v l ∧ RFr w w' r v v :=
  ⟨h.kept hb, ⟨hb.os, hb.tape, hb.output, hb.size, fun k hk _ _ => hb.block k hk, fun g hg => .inl hg⟩⟩
/-- One counter of the row is another one. -/
theorem RefAt.store_ {w W : World} {r g cap i : Nat} {l : List Ent} (h : RefAt w r (.slice (some ⟨g, 0, none⟩) l.length cap) l) (hb : Below w.heap.size w W) (hi : i < l.length) (x : Ent) :
    RefAt (((W.setCell ⟨g, i * 3, none⟩ (.string ⟨x.1.toArray⟩)).setCell ⟨g, i * 3 + 1, none⟩ (.int .i64 x.2.1)).setCell ⟨g, i * 3 + 2, none⟩ (.int .i64 x.2.2)) r (.slice (some ⟨g, 0, none⟩) l.length cap) (l.set i x) ∧
    RFr w (((W.setCell ⟨g, i * 3, none⟩ (.string ⟨x.1.toArray⟩)).setCell ⟨g, i * 3 + 1, none⟩ (.int .i64 x.2.1)).setCell ⟨g, i * 3 + 2, none⟩ (.int .i64 x.2.2)) r (.slice (some ⟨g, 0, none⟩) l.length cap) (.slice (some ⟨g, 0, none⟩) l.length cap) := by
  have h1 := h.kept hb
  have hgr : g ≠ r := fun e => h.ne (by simp [Value.ownBlock, e])
  have hsz := hb.size
  have hother : ∀ k, k ≠ g → (((W.setCell ⟨g, i * 3, none⟩ (.string ⟨x.1.toArray⟩)).setCell ⟨g, i * 3 + 1, none⟩ (.int .i64 x.2.1)).setCell ⟨g, i * 3 + 2, none⟩ (.int .i64 x.2.2)).heap[k]? = W.heap[k]? := fun k hk => by
    simp [World.setCell, Array.getElem?_modify, Ne.symm hk]
  have o1 := h1.own.stored (i * 3) (.string ⟨x.1.toArray⟩)
  have o2 := o1.1.stored (i * 3 + 1) (.int .i64 x.2.1)
  have o3 := (o2.1.stored (i * 3 + 2) (.int .i64 x.2.2)).1
  rw [← cnts_set x l i hi] at o3
  refine ⟨⟨?_, by rw [List.length_set]; exact o3, fun e => ?_⟩, ⟨hb.os, hb.tape, hb.output, by simpa [World.setCell] using hsz, fun k hk hkr hkg => ?_, fun g hg => .inl hg⟩⟩
  · rw [hother r (Ne.symm hgr)]
    exact h1.box
  · have := congrArg List.length e
    rw [List.length_set] at this
    rw [List.eq_nil_of_length_eq_zero this] at hi
    simp at hi
  · rw [hother k (fun e => hkg (by simp [Value.ownBlock, e]))]
    exact hb.block k hk
set_option maxHeartbeats 1600000 in
set_option maxRecDepth 20000 in
theorem radd_over (r : Nat) (v : Value) (l : List Ent) (hg : Good l) (w : World) (hR : RefAt w r v l) (s : ByteArray) (hm : mayB s.data.toList = true) (a c : Nat) (ha : a ≤ 4503599627370496) (hc : c ≤ 4503599627370496)
    (i : Nat) (e : Ent) (he : l[i]? = some e) (hes : e.1 = s.data.toList) (hv : ¬ (e.2.1 + a ≤ 4503599627370496 ∧ e.2.2 + c ≤ 4503599627370496)) :
    Calls Tryd.prog 23 #[.pointer (some ⟨r, 0, none⟩), .string s, .int .i64 a, .int .i64 c] w fun e w' => e = .returned (.int .i64 9) ∧ Below w.heap.size w w' := by
  have hlen := hg.len
  have hfit := hg.fit e (List.mem_of_getElem? he)
  have hil := (List.getElem?_eq_some_iff.1 he).1
  have HM := Lib.hid (rmay_any s (small hm))
  have HA := Lib.hid (at_yes r v l (by omega) w hR s i e he hes (fun j e' hj he' => by rw [← hes]; exact names_once hg.srt he he' hj))
  have HE := Lib.hid hm
  have a1 : decide ((4503599627370496 : Int) < (a : Int)) = false := by simp; omega
  have c1 : decide ((4503599627370496 : Int) < (c : Int)) = false := by simp; omega
  have a0 : decide ((a : Int) < 0) = false := by simp
  have c0 : decide ((c : Int) < 0) = false := by simp
  have hc0 := hR.cell
  rcases hR.shape with ⟨rfl, rfl⟩ | ⟨g, cap, hne, rfl, hcap, hcm, hgr, hgl, hfz, hcell⟩
  · simp at hil
  · have q0 := hcell i e he 0 (by omega)
    have q1 := hcell i e he 1 (by omega)
    have q2 := hcell i e he 2 (by omega)
    simp only [cnt, List.getElem?_cons_zero, List.getElem?_cons_succ, Nat.add_zero] at q0 q1 q2
    have hi0 : decide ((i : Int) < 0) = false := by simp
    have hi1 : (i : Int) < (l.length : Int) := by omega
    have hi2 : (0 : Int) ≤ (i : Int) := by omega
    have s1 : IntKind.i64.wrap (4503599627370496 - (a : Int)) = 4503599627370496 - (a : Int) := by rw [IntKind.wrap_i64]; omega
    have s2 : IntKind.i64.wrap (4503599627370496 - (c : Int)) = 4503599627370496 - (c : Int) := by rw [IntKind.wrap_i64]; omega
    unfold maxLen at hcm
    by_cases h1 : e.2.1 + a ≤ 4503599627370496
    · have t1 : decide (4503599627370496 - (a : Int) < (e.2.1 : Int)) = false := by simp; omega
      have t2 : 4503599627370496 - (c : Int) < (e.2.2 : Int) := by omega
      clear hm hR hcell hfz hne hg ha hc he hes hv h1 hfit
      go_enter Tryd.func23, Tryd.ntmps23
      go_wp2_with (first
        | (go_at_call 11; refine HA.out.mono ?_; rintro e w' ⟨rfl, rfl⟩)
        | (go_at_call 16; refine (HM.out _).mono ?_; rintro e w' ⟨rfl, rfl⟩; rw [HE.out]))
      go_ret
      exact ⟨rfl, (Below.refl _ _).alloc (Nat.le_refl _) _⟩
    · have t1 : 4503599627370496 - (a : Int) < (e.2.1 : Int) := by omega
      clear hm hR hcell hfz hne hg ha hc he hes hv h1 hfit
      go_enter Tryd.func23, Tryd.ntmps23
      go_wp2_with (first
        | (go_at_call 11; refine HA.out.mono ?_; rintro e w' ⟨rfl, rfl⟩)
        | (go_at_call 16; refine (HM.out _).mono ?_; rintro e w' ⟨rfl, rfl⟩; rw [HE.out]))
      go_ret
      exact ⟨rfl, (Below.refl _ _).alloc (Nat.le_refl _) _⟩
set_option maxHeartbeats 1600000 in
set_option maxRecDepth 20000 in
theorem radd_more (r : Nat) (v : Value) (l : List Ent) (hg : Good l) (w : World) (hR : RefAt w r v l) (s : ByteArray) (hm : mayB s.data.toList = true) (a c : Nat) (ha : a ≤ 4503599627370496) (hc : c ≤ 4503599627370496)
    (i : Nat) (e : Ent) (he : l[i]? = some e) (hes : e.1 = s.data.toList) (hv1 : e.2.1 + a ≤ 4503599627370496) (hv2 : e.2.2 + c ≤ 4503599627370496) :
    Calls Tryd.prog 23 #[.pointer (some ⟨r, 0, none⟩), .string s, .int .i64 a, .int .i64 c] w fun e' w' => e' = .returned (.int .i64 0) ∧ RefAt w' r v (putE (s.data.toList, e.2.1 + a, e.2.2 + c) l) ∧ RFr w w' r v v := by
  have hlen := hg.len
  have hfit := hg.fit e (List.mem_of_getElem? he)
  have hil := (List.getElem?_eq_some_iff.1 he).1
  have HM := Lib.hid (rmay_any s (small hm))
  have HA := Lib.hid (at_yes r v l (by omega) w hR s i e he hes (fun j e' hj he' => by rw [← hes]; exact names_once hg.srt he he' hj))
  have HE := Lib.hid hm
  have HP := Lib.hid (putE_set (s.data.toList, e.2.1 + a, e.2.2 + c) l i e hg.srt he hes)
  have a1 : decide ((4503599627370496 : Int) < (a : Int)) = false := by simp; omega
  have c1 : decide ((4503599627370496 : Int) < (c : Int)) = false := by simp; omega
  have a0 : decide ((a : Int) < 0) = false := by simp
  have c0 : decide ((c : Int) < 0) = false := by simp
  have hc0 := hR.cell
  have HR := Lib.hid hR
  have hse : (⟨e.1.toArray⟩ : ByteArray) = s := str_eq hes
  rcases hR.shape with ⟨rfl, rfl⟩ | ⟨g, cap, hne, rfl, hcap, hcm, hgr, hgl, hfz, hcell⟩
  · simp at hil
  · have q0 := hcell i e he 0 (by omega)
    have q1 := hcell i e he 1 (by omega)
    have q2 := hcell i e he 2 (by omega)
    simp only [cnt, List.getElem?_cons_zero, List.getElem?_cons_succ, Nat.add_zero] at q0 q1 q2
    rw [hse] at q0
    have f0 := hfz (i * 3)
    have f1 := hfz (i * 3 + 1)
    have f2 := hfz (i * 3 + 2)
    have hi0 : decide ((i : Int) < 0) = false := by simp
    have hi1 : (i : Int) < (l.length : Int) := by omega
    have hi2 : (0 : Int) ≤ (i : Int) := by omega
    have s1 : IntKind.i64.wrap (4503599627370496 - (a : Int)) = 4503599627370496 - (a : Int) := by rw [IntKind.wrap_i64]; omega
    have s2 : IntKind.i64.wrap (4503599627370496 - (c : Int)) = 4503599627370496 - (c : Int) := by rw [IntKind.wrap_i64]; omega
    have s3 : IntKind.i64.wrap ((e.2.1 : Int) + (a : Int)) = (e.2.1 : Int) + (a : Int) := by rw [IntKind.wrap_i64]; omega
    have s4 : IntKind.i64.wrap ((e.2.2 : Int) + (c : Int)) = (e.2.2 : Int) + (c : Int) := by rw [IntKind.wrap_i64]; omega
    unfold maxLen at hcm
    have t1 : decide (4503599627370496 - (a : Int) < (e.2.1 : Int)) = false := by simp; omega
    have t2 : decide (4503599627370496 - (c : Int) < (e.2.2 : Int)) = false := by simp; omega
    have up : ∀ (o : Obj) (b j : Nat) (u : Value), w.cell? ⟨b, j, none⟩ = some u → b < w.heap.size → (w.alloc o).cell? ⟨b, j, none⟩ = some u := fun o b j u h hb => (World.cell?_alloc_lt w o ⟨b, j, none⟩ hb).trans h
    have uf : ∀ (o : Obj) (b j : Nat), w.frozen? ⟨b, j, none⟩ = false → b < w.heap.size → (w.alloc o).frozen? ⟨b, j, none⟩ = false := fun o b j h hb => (((Below.refl w.heap.size w).alloc (Nat.le_refl _) o).frozen (p := ⟨b, j, none⟩) hb).trans h
    have hcA := fun o => up o _ _ _ hc0 HR.out.lt
    have q0A := fun o => up o _ _ _ q0 hgl
    have q1A := fun o => up o _ _ _ q1 hgl
    have q2A := fun o => up o _ _ _ q2 hgl
    have f0A := fun o => uf o _ _ f0 hgl
    have f1A := fun o => uf o _ _ f1 hgl
    have f2A := fun o => uf o _ _ f2 hgl
    clear hm hR hcell hfz hne hg ha hc he hes hv1 hv2 hfit hse up uf
    go_enter Tryd.func23, Tryd.ntmps23
    go_wp2_with (first
      | (go_at_call 11; refine HA.out.mono ?_; rintro e w' ⟨rfl, rfl⟩)
      | (go_at_call 16; refine (HM.out _).mono ?_; rintro e w' ⟨rfl, rfl⟩; rw [HE.out]))

    go_region
    all_goals go_wp2
    all_goals go_ret
    all_goals refine ⟨rfl, ?_⟩
    all_goals rw [HP.out]
    have hS := HR.out.store_ (Below.refl _ _) hil (s.data.toList, e.2.1 + a, e.2.2 + c)
    have hss : (⟨s.data.toList.toArray⟩ : ByteArray) = s := by simp
    simp only [hss, Int.natCast_add] at hS
    have hT := hS.1.below (((Below.refl _ _).alloc (Nat.le_refl _) (.cells #[.string s, .int .i64 (↑e.snd.fst + ↑a), .int .i64 (↑e.snd.snd + ↑c)] 49)).drew)
    exact ⟨hT.1, hS.2.trans hT.2⟩
set_option maxHeartbeats 1600000 in
theorem copy_any (r : Nat) (v : Value) (l : List Ent) (hl : l.length ≤ 1000) (w : World) (hR : RefAt w r v l) :
    Calls Tryd.prog 28 #[.pointer (some ⟨r, 0, none⟩)] w fun e w' => ∃ r' v', e = .returned (.pointer (some ⟨r', 0, none⟩)) ∧ RefAt w' r' v' l ∧ w.heap.size ≤ r' ∧ (∀ g, v'.ownBlock = some g → w.heap.size ≤ g) ∧ Below w.heap.size w w' := by
  have hc0 := hR.cell
  obtain ⟨i0, hi, hz0, hz1, hz2⟩ := info_parts info49
  rcases hR.shape with ⟨rfl, rfl⟩ | ⟨g, cap, hne, rfl, hcap, hcm, hgr, hgl, hfz, hcell⟩
  · clear hR
    go_enter Tryd.func28, Tryd.ntmps28
    go_wp2
    go_ret
    refine ⟨w.heap.size, .slice none 0 0, rfl, ⟨?_, none_own _ _, fun _ => rfl⟩, Nat.le_refl _, fun g hg => by simp [Value.ownBlock] at hg, (Below.refl _ _).alloc (Nat.le_refl _) _⟩
    have := World.alloc_heap_new w (.cells #[.slice none 0 0] 58 (0, 0))
    simpa using this
  · have HT := Lib.hid (fun k => row_take hgl hcell k)
    have hl0 : 0 < l.length := by
      rcases Nat.eq_zero_or_pos l.length with h | h
      · exact absurd (List.eq_nil_of_length_eq_zero h) hne
      · exact h
    clear hR hcell hfz hne
    unfold maxLen at hcm
    go_enter Tryd.func28, Tryd.ntmps28
    go_wp2_with (first
      | (at_builtin; refine wp_app rfl _ _ 46 rfl w.heap.size 49 i0 _ 3 32 Tryd.underlying46 hi hz0 hz1 hz2 rfl (by decide) (.slice none 0 0) 0 [] rfl (none_own _ _) ⟨g, 0, none⟩ l.length cap (cnts (l.take l.length)) rfl (by rw [cnts_len, List.length_take, Nat.min_self]) (HT.out _ _ (Below.refl _ _)) (cnts_one _) l.length (cnts (l.take l.length)) (by omega) (by omega) rfl (by unfold maxLen; omega) (by omega) (Nat.le_refl _) ?_; intro g2 cap2 w2 hown2 hb2 hg2; have HO := Lib.hid hown2; have HB := Lib.hid hb2; clear hg2 hb2 hown2))
    go_ret
    have ho := HO.out
    rw [List.take_length] at ho
    refine ⟨w2.heap.size, .slice (some ⟨g2, 0, none⟩) l.length cap2, rfl, ⟨?_, ?_, fun e => by rw [e] at hl0; simp at hl0⟩, HB.out.size, fun g hg => ?_, HB.out.alloc HB.out.size _⟩
    · have := World.alloc_heap_new w2 (.cells #[.slice (some ⟨g2, 0, none⟩) l.length cap2] 58 (0, 0))
      simpa using this
    · exact ownsRow_base_a (ho.alloc _) (Nat.zero_le _)
    · exact (ho.lt g hg).1
end Go.Proofs.YtgoeiejdcpoaaaaDoor
