/-
  Walk: (*Meter).Join. Part of the proofs of the meter's statements. No condition beyond the theorems' own hypotheses.
-/
import Derived.Test.YtgoeiejdcpoaaaaDoorPa
namespace Go.Proofs.YtgoeiejdcpoaaaaDoor
open Go.RowKit Go.Maps Go.WideAt Go.WideShapes Go.Sort Fl

/-- A meter that lies somewhere: its map's bound, its blocks, what it holds. -/
structure Mtr where
  Q : Nat
  p : Nat
  b : Nat
  l : List Ent
def MtrsAt (w : World) (ms : List Mtr) : Prop := ∀ m ∈ ms, MeterAt w m.Q m.p m.b m.l ∧ Good m.l
theorem MtrsAt.kept {w w' : World} {ms : List Mtr} (h : MtrsAt w ms) (hb : Below w.heap.size w w') : MtrsAt w' ms := fun m hm => ⟨(h m hm).1.kept hb, (h m hm).2⟩
def flatM (ms : List Mtr) : List Ent := ms.flatMap (·.l)
theorem flatM_take (ms : List Mtr) (k : Nat) (m : Mtr) (hm : ms[k]? = some m) : flatM (ms.take (k + 1)) = flatM (ms.take k) ++ m.l := by
  unfold flatM
  rw [List.take_add_one, hm, List.flatMap_append]
  simp
theorem flatM_cut (ms : List Mtr) (k : Nat) (m : Mtr) (hm : ms[k]? = some m) : flatM ms = flatM (ms.take k) ++ (m.l ++ flatM (ms.drop (k + 1))) := by
  conv => lhs; rw [← List.take_append_drop k ms]
  unfold flatM
  rw [List.flatMap_append, List.drop_eq_getElem?_toList_append, hm]
  simp
/-- How a join ends. -/
def JoinEnds (w : World) (p b : Nat) (l0 xs : List Ent) (e : Ending) (w' : World) : Prop :=
  ∃ b' Q', e = .returned (.int .i64 (addsL l0 xs).1) ∧ MeterAt w' Q' p b' (joinL l0 xs) ∧ w.grownBy w' (some p) ∧ (b' = b ∨ w.heap.size ≤ b')
theorem grown_trans' {a b c : World} {r : Option Nat} (h : a.grownBy b r) (k : b.grownBy c r) : a.grownBy c r :=
  ⟨k.os.trans h.os, k.tape.trans h.tape, k.output.trans h.output, Nat.le_trans h.size k.size, fun i hi hn => (k.block i (Nat.lt_of_lt_of_le hi h.size) hn).trans (h.block i hi hn)⟩
theorem below_grown {a b : World} (h : Below a.heap.size a b) (r : Option Nat) : a.grownBy b r := ⟨h.os, h.tape, h.output, h.size, fun i hi _ => h.block i hi⟩
theorem run_neqz (n : Int) : ((n != 0) = false) ↔ n = 0 := by simp
theorem only_set (w : World) (p : Nat) (v : Value) : w.grownBy (w.setCell ⟨p, 0, none⟩ v) (some p) :=
  ⟨rfl, rfl, rfl, by simp [World.setCell], fun k _ hk => by simp [World.setCell, Array.getElem?_modify, show p ≠ k from fun e => hk (by rw [e])]⟩
set_option maxHeartbeats 6400000 in
set_option maxRecDepth 40000 in
theorem mjoin_any (Q p b : Nat) (l0 : List Ent) (hg : Good l0) (w : World) (hM : MeterAt w Q p b l0) (g cap : Nat) (ms : List Mtr) (hl : ms.length ≤ 1000) (hP : PtrsAt w g (ms.map fun m => some m.p)) (hms : MtrsAt w ms) (hQ : Q + (flatM ms).length < 1000000) :
    Calls Tryd.prog 14 #[.pointer (some ⟨p, 0, none⟩), .slice (some ⟨g, 0, none⟩) ms.length cap] w fun e w' => JoinEnds w p b l0 (flatM ms) e w' := by
  have HI := Lib.hid (contains_no g cap (ms.map fun m => some m.p) (by simpa using hl) w hP (by simp))
  rw [List.length_map] at HI
  have hr := fun w => run_eql_map_nil (P := Tryd.prog) w 62 9 32 (some b) Tryd.underlying62
  have hp0 := hM.cell
  have HC := Lib.hid (AnyW.maps_Clone_owns Tryd.clone26 9 RH b Q (dat l0) w hM.own)
  have HM := Lib.hid hM
  have HMS := Lib.hid hms
  have HP := Lib.hid hP
  have HG := Lib.hid hg
  have HQ := Lib.hid hQ
  clear hM hms hP hg hQ
  go_enter Tryd.func14, Tryd.ntmps14
  go_wp2_with (first
    | (go_at_call 26; refine HC.out.mono ?_; rintro e w1 ⟨rfl, ho1, -, hb1⟩; have HO1 := Lib.hid ho1; have HB1 := Lib.hid hb1; clear ho1 hb1)
    | (go_at_call 25; refine HI.out.mono ?_; rintro e w' ⟨rfl, rfl⟩))
  go_loopw [33] (fun u wr => ∃ (k : Nat) (cur : List Ent) (Q2 : Nat), k ≤ ms.length ∧ u = .int .i64 k ∧ Hid (addsL l0 (flatM (ms.take k)) = (0, cur)) ∧ Hid (wr.ownsMap Tryd.prog 9 RH w.heap.size Q2 (dat cur)) ∧ Hid (Q2 = Q + (flatM (ms.take k)).length) ∧ Hid (Below w.heap.size w wr))
    (fun u _ => ms.length - (intOf u).toNat)
  case atStart => exact ⟨0, l0, Q, Nat.zero_le _, rfl, Lib.hid rfl, HO1, Lib.hid (by simp [flatM]), HB1⟩
  case round =>
    obtain ⟨k, cur, Q2, hk, rfl, hcur, hown, hQ2, hb⟩ := hrel
    by_cases hlt : k < ms.length
    · have hk1 : (k : Int) < (ms.length : Int) := by omega
      have hk0 : (0 : Int) ≤ (k : Int) := by omega
      obtain ⟨m, hm⟩ : ∃ e, ms[k]? = some e := ⟨ms[k], List.getElem?_eq_getElem hlt⟩
      have hc : wr.cell? ⟨g, k, none⟩ = some (.pointer (some ⟨m.p, 0, none⟩)) := (hb.out.cell (p := ⟨g, k, none⟩) HP.out.lt).trans (HP.out.cell k (some m.p) (by rw [List.getElem?_map, hm]; rfl))
      have HMM := Lib.hid (HMS.out m (List.mem_of_getElem? hm))
      have hlen := HMM.out.2.len
      have HT := Lib.hid (flatM_take ms k m hm)
      have HCUT := Lib.hid (flatM_cut ms k m hm)
      have HA := Lib.hid (all_any m.Q m.p m.b m.l HMM.out.2 wr (HMM.out.1.kept hb.out))
      have hne := neq49
      clear hm
      go_wp2_with (first
        | (go_at_call 19; refine HA.out.mono ?_; rintro e w2 ⟨v2, rfl, hrow, hnil, hb2⟩; have HB2 := Lib.hid hb2; rcases row_shape hrow rfl hnil with ⟨h0, rfl⟩ | ⟨g2, cap2, hnz, rfl, hcap2, hcm2, hgB, hgl2, hcell2⟩; clear hrow hnil hb2))
      · go_loop [40] (fun u => u = .int .i64 0) (fun _ => 0)
        case atStart => rfl
        case round =>
          subst hrel
          go_wp2
          go_roundw
          case rel =>
            refine ⟨k + 1, cur, Q2, by omega, by go_num, Lib.hid ?_, Lib.hid (hown.out.kept (below_grown HB2.out none) (by simp)), Lib.hid ?_, Lib.hid (hb.out.trans (HB2.out.mono hb.out.size))⟩
            · rw [HT.out, h0, List.append_nil]
              exact hcur.out
            · rw [HT.out, h0, List.append_nil]
              exact hQ2.out
          case measure => simp [intOf]; omega
      · have HC2 := Lib.hid hcell2
        have hcm2' : cap2 ≤ 9223372036854775807 := by unfold maxLen at hcm2; omega
        have HNZ := Lib.hid hnz
        have hbw : w.heap.size < w2.heap.size := Nat.lt_of_lt_of_le hown.out.lt HB2.out.size
        have hgne : g2 ≠ w.heap.size := by have := hown.out.lt; omega
        clear hcell2 hcm2 hnz
        go_loopw [40] (fun u wi => ∃ (j : Nat) (cu : List Ent) (Q3 : Nat), j ≤ m.l.length ∧ u = .int .i64 j ∧ Hid (addsL l0 (flatM (ms.take k) ++ m.l.take j) = (0, cu)) ∧ Hid (wi.ownsMap Tryd.prog 9 RH w.heap.size Q3 (dat cu)) ∧ Hid (Q3 = Q2 + j) ∧ Hid (w2.grownBy wi (some w.heap.size)))
          (fun u _ => m.l.length - (intOf u).toNat)
        case atStart => exact ⟨0, cur, Q2, Nat.zero_le _, rfl, Lib.hid (by simpa using hcur.out), Lib.hid (hown.out.kept (below_grown HB2.out none) (by simp)), Lib.hid rfl, Lib.hid ⟨rfl, rfl, rfl, Nat.le_refl _, fun _ _ _ => rfl⟩⟩
        case round =>
          obtain ⟨j, cu, Q3, hj, rfl, hcu, hown3, hQ3, hgr3⟩ := hrel
          have HBW := Lib.hid ((hb.out.trans (HB2.out.mono hb.out.size)).grown hgr3.out (Nat.le_trans hb.out.size HB2.out.size) (fun k e => by cases e; exact Nat.le_refl _))
          by_cases hjl : j < m.l.length
          · have hj1 : (j : Int) < (m.l.length : Int) := by omega
            have hj0 : (0 : Int) ≤ (j : Int) := by omega
            obtain ⟨e, he⟩ : ∃ e, m.l[j]? = some e := ⟨m.l[j], List.getElem?_eq_getElem hjl⟩
            have hmem := List.mem_of_getElem? he
            have hfit := HMM.out.2.fit e hmem
            have hnam := HMM.out.2.nam e hmem
            have hup : ∀ i u, w2.cell? ⟨g2, i, none⟩ = some u → wr.cell? ⟨g2, i, none⟩ = some u := fun i u h => hgr3.out.cell h (by simpa using hgne)
            have q0 := hup _ _ (HC2.out j e he 0 (by omega))
            have q1 := hup _ _ (HC2.out j e he 1 (by omega))
            have q2 := hup _ _ (HC2.out j e he 2 (by omega))
            rw [Nat.add_zero] at q0
            have hgc : Good cu := by have := good_addsL (flatM (ms.take k) ++ m.l.take j) HG.out; rw [hcu.out] at this; exact this
            have hlQ : (flatM (ms.take k)).length + m.l.length ≤ (flatM ms).length := by rw [HCUT.out]; simp
            have hQ3' : Q3 < 1000000 := by have := hQ3.out; have := hQ2.out; have := HQ.out; omega
            have HADD := Lib.hid (fun W h => adds_any w.heap.size Q3 hQ3' cu hgc W h e hnam hfit.1 hfit.2)
            have HMK := Lib.hid (make_yes e.2.1 e.2.2 (by omega) (by omega))
            have htk : m.l.take (j + 1) = m.l.take j ++ [e] := by rw [List.take_add_one, he]; rfl
            have hdr : m.l = m.l.take j ++ e :: m.l.drop (j + 1) := by
              conv => lhs; rw [← List.take_append_drop j m.l]
              rw [List.drop_eq_getElem?_toList_append, he]
              rfl
            have HTK := Lib.hid htk
            have HDR := Lib.hid hdr
            clear hup he hmem hfit hnam hgc hlQ hQ3' htk hdr
            by_cases hco : (addL cu e.1 e.2.1 e.2.2).1 = 0
            · have HS := Lib.hid (addsL_snoc e hcu.out hco)
              have hco' : ((addL cu e.1 e.2.1 e.2.2).1 != 0) = false := by simp [hco]
              clear hco
              generalize addL cu e.1 e.2.1 e.2.2 = res at *
              go_wp2_with (first
                | (go_at_call 27; refine (HADD.out _ (hown3.out.alloc _)).mono ?_; rintro e' w5 ⟨rfl, ho5, hg5⟩; have HO5 := Lib.hid ho5; have HG5 := Lib.hid hg5; clear ho5 hg5)
                | (go_at_call 22; refine (HMK.out _).mono ?_; rintro e' w' ⟨rfl, rfl⟩))
              go_roundw
              case rel => exact ⟨j + 1, res.2, Q3 + 1, by omega, by go_num, Lib.hid (by rw [HTK.out, ← List.append_assoc]; exact HS.out), HO5, Lib.hid (by rw [hQ3.out]; omega), Lib.hid (grown_trans' (grown_trans' hgr3.out (below_grown ((Below.refl _ _).alloc (Nat.le_refl _) _) _)) HG5.out)⟩
              case measure => simp [intOf]; omega
            · have HS := Lib.hid (addsL_stop e (m.l.drop (j + 1) ++ flatM (ms.drop (k + 1))) hcu.out hco)
              have HNZ2 := Lib.hid hco
              have hco' : ((addL cu e.1 e.2.1 e.2.2).1 != 0) = true := by simp [hco]
              clear hco
              generalize addL cu e.1 e.2.1 e.2.2 = res at *
              go_wp2_with (first
                | (go_at_call 27; refine (HADD.out _ (hown3.out.alloc _)).mono ?_; rintro e' w5 ⟨rfl, ho5, hg5⟩; have HO5 := Lib.hid ho5; have HG5 := Lib.hid hg5; clear ho5 hg5)
                | (go_at_call 22; refine (HMK.out _).mono ?_; rintro e' w' ⟨rfl, rfl⟩))
              go_ret
              have hflat : flatM ms = flatM (ms.take k) ++ m.l.take j ++ e :: (m.l.drop (j + 1) ++ flatM (ms.drop (k + 1))) := by
                rw [HCUT.out]
                conv => lhs; rw [HDR.out]
                simp
              have hB5 : Below w.heap.size w w5 := (HBW.out.alloc HBW.out.size _).grown HG5.out (by have := HBW.out.size; simp; omega) (fun k e => by cases e; exact Nat.le_refl _)
              have hcode : (addsL l0 (flatM ms)).1 = res.1 := by rw [hflat]; exact HS.out
              refine ⟨b, Q, by rw [hcode]; rfl, ?_, below_grown hB5 _, .inl rfl⟩
              unfold joinL
              rw [hcode, if_neg HNZ2.out]
              exact HM.out.kept hB5
          · obtain rfl : j = m.l.length := by omega
            clear hjl
            go_wp2
            go_roundw
            case rel =>
              refine ⟨k + 1, cu, Q3, by omega, by go_num, Lib.hid ?_, hown3, Lib.hid ?_, HBW⟩
              · rw [HT.out]
                have := hcu.out
                rwa [List.take_length] at this
              · rw [HT.out, List.length_append, ← Nat.add_assoc, ← hQ2.out]
                exact hQ3.out
            case measure => simp [intOf]; omega
    · obtain rfl : k = ms.length := by omega
      clear hlt
      have hp1 := (hb.out.cell (p := ⟨p, 0, none⟩) HM.out.lt).trans hp0
      have hp2 : wr.frozen? ⟨p, 0, none⟩ = false := (hb.out.frozen (p := ⟨p, 0, none⟩) HM.out.lt).trans (by simp [World.frozen?, HM.out.box])
      go_wp2
      go_ret
      have hc := hcur.out
      rw [List.take_length] at hc
      refine ⟨w.heap.size, Q2, by rw [hc]; rfl, ⟨?_, ?_⟩, ?_, .inr (Nat.le_refl _)⟩
      · have := (hb.out.block p HM.out.lt).trans HM.out.box
        simp [World.setCell, Array.getElem?_modify, this]
      · unfold joinL
        rw [hc, if_pos rfl]
        refine hown.out.kept (row := some p) (only_set wr p _) (by simpa using Nat.ne_of_gt HM.out.lt)
      · exact grown_trans' (below_grown hb.out _) (only_set wr p _)
end Go.Proofs.YtgoeiejdcpoaaaaDoor
