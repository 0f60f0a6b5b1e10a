/-
  Walk: the document's Join. Part of the proofs of the meter's statements. No condition beyond the theorems' own hypotheses.
-/
import Derived.Test.YtgoeiejdcpoaaaaDoorPb
import Derived.LaidEqlPtr
namespace Go.Proofs.YtgoeiejdcpoaaaaDoor
open Go.RowKit Go.Maps Go.WideAt Go.WideShapes Go.Sort Fl

/-- A meter of the document's that lies somewhere. -/
structure Rtr where
  r : Nat
  v : Value
  l : List Ent
def RefsAt (w : World) (rs : List Rtr) : Prop := ∀ m ∈ rs, RefAt w m.r m.v m.l ∧ Good m.l
def flatR (rs : List Rtr) : List Ent := rs.flatMap (·.l)
theorem flatR_take (ms : List Rtr) (k : Nat) (m : Rtr) (hm : ms[k]? = some m) : flatR (ms.take (k + 1)) = flatR (ms.take k) ++ m.l := by
  unfold flatR
  rw [List.take_add_one, hm, List.flatMap_append]
  simp
theorem flatR_cut (ms : List Rtr) (k : Nat) (m : Rtr) (hm : ms[k]? = some m) : flatR ms = flatR (ms.take k) ++ (m.l ++ flatR (ms.drop (k + 1))) := by
  conv => lhs; rw [← List.take_append_drop k ms]
  unfold flatR
  rw [List.flatMap_append, List.drop_eq_getElem?_toList_append, hm]
  simp
/-- How a join of the document's ends. -/
def RJoinEnds (w : World) (r : Nat) (v : Value) (l0 xs : List Ent) (e : Ending) (w' : World) : Prop :=
  ∃ v', e = .returned (.int .i64 (addsL l0 xs).1) ∧ RefAt w' r v' (joinL l0 xs) ∧ w.grownBy w' (some r) ∧ (v' = v ∨ ∀ g, v'.ownBlock = some g → w.heap.size ≤ g)
/-- Two meters of the document's share nothing. -/
structure Apart2 (rx : Nat) (vx : Value) (rc : Nat) (vc : Value) : Prop where
  a : rx ≠ rc
  b : vc.ownBlock ≠ some rx
  c : ∀ g, vx.ownBlock = some g → g ≠ rc ∧ vc.ownBlock ≠ some g
theorem Apart2.step {w w' : World} {rx rc : Nat} {vx vx' vc : Value} {lc : List Ent} (h : Apart2 rx vx rc vc) (hC : RefAt w rc vc lc) (hF : RFr w w' rx vx vx') : RefAt w' rc vc lc ∧ Apart2 rx vx' rc vc := by
  have hlt := hC.lt
  refine ⟨hC.keep (hF.block rc hlt (Ne.symm h.a) (fun e => (h.c rc e).1 rfl)) (fun g hg => hF.block g (hC.glt hg) (fun e => h.b (by rw [hg, e])) (fun e => (h.c g e).2 hg)), ⟨h.a, h.b, fun g hg => ?_⟩⟩
  rcases hF.new g hg with e | e
  · exact h.c g e
  · exact ⟨by omega, fun e' => by have := hC.glt e'; omega⟩
theorem info58 : (Tryd.prog.info? 58).map (fun i => (i.zero, i.size, i.bytes)) = some (some (.agg #[.slice none 0 0]), 1, 24) := by kernel_rfl
theorem eql26_any (w : World) (a b : Nat) (ca cb : Array Value) (ta tb : TypeId) (ha : w.heap[a]? = some (.cells ca ta (0, 0))) (hb : w.heap[b]? = some (.cells cb tb (0, 0))) :
    (binOp .eql 26 (.pointer (some ⟨a, 0, none⟩)) (.pointer (some ⟨b, 0, none⟩))).run Tryd.prog w = .ok (.bool (decide (a = b))) w := by
  obtain ⟨j, hj, -, hsz, -⟩ := info_parts info58
  by_cases h : a = b
  · subst h
    rw [run_eql_ptr_same w ⟨a, 0, none⟩ Tryd.underlying26 hj]
    simp
  · rw [run_eql_ptr_other w Tryd.underlying26 hj (by rw [hsz]; decide) (a := ⟨a, 0, none⟩) (b := ⟨b, 0, none⟩) (fun e => h (by injection e)) ha hb]
    simp [h]
theorem RefAt.form {w : World} {r : Nat} {v : Value} {l : List Ent} (h : RefAt w r v l) : ∃ A n c, v = .slice A n c := by
  rcases h.own.2 with ⟨rfl, _⟩ | ⟨g, cap, cur, rfl, _⟩
  · exact ⟨_, _, _, rfl⟩
  · exact ⟨_, _, _, rfl⟩
theorem RefAt.cells {w : World} {r g cap n : Nat} {l : List Ent} (h : RefAt w r (.slice (some ⟨g, 0, none⟩) n cap) l) {k : Nat} {e : Ent} (he : l[k]? = some e) (j : Nat) (hj : j < 3) : w.cell? ⟨g, k * 3 + j, none⟩ = (cnt e)[j]? := by
  rcases h.shape with ⟨rfl, _⟩ | ⟨g', cap', _, hv, _, _, _, _, _, hc⟩
  · simp at he
  · obtain rfl : g = g' := by injection hv with h1; injection h1 with h2; injection h2
    exact hc k e he j hj
theorem RefAt.at0 {w : World} {r g cap n : Nat} {l : List Ent} (h : RefAt w r (.slice (some ⟨g, 0, none⟩) n cap) l) {k : Nat} {e : Ent} (he : l[k]? = some e) : w.cell? ⟨g, k * 3, none⟩ = some (.string ⟨e.1.toArray⟩) := h.cells he 0 (by omega)
theorem RefAt.at1 {w : World} {r g cap n : Nat} {l : List Ent} (h : RefAt w r (.slice (some ⟨g, 0, none⟩) n cap) l) {k : Nat} {e : Ent} (he : l[k]? = some e) : w.cell? ⟨g, k * 3 + 1, none⟩ = some (.int .i64 e.2.1) := h.cells he 1 (by omega)
theorem RefAt.at2 {w : World} {r g cap n : Nat} {l : List Ent} (h : RefAt w r (.slice (some ⟨g, 0, none⟩) n cap) l) {k : Nat} {e : Ent} (he : l[k]? = some e) : w.cell? ⟨g, k * 3 + 2, none⟩ = some (.int .i64 e.2.2) := h.cells he 2 (by omega)
theorem RefAt.all4 {w : World} {r g cap n : Nat} {l : List Ent} (h : RefAt w r (.slice (some ⟨g, 0, none⟩) n cap) l) {k : Nat} {e : Ent} (he : l[k]? = some e) : w.cell? ⟨r, 0, none⟩ = some (.slice (some ⟨g, 0, none⟩) n cap) ∧ w.cell? ⟨g, k * 3, none⟩ = some (.string ⟨e.1.toArray⟩) ∧ w.cell? ⟨g, k * 3 + 1, none⟩ = some (.int .i64 e.2.1) ∧ w.cell? ⟨g, k * 3 + 2, none⟩ = some (.int .i64 e.2.2) :=
  ⟨h.cell, h.at0 he, h.at1 he, h.at2 he⟩
set_option maxHeartbeats 6400000 in
set_option maxRecDepth 40000 in
theorem rjoin_any (r : Nat) (v : Value) (l0 : List Ent) (hg : Good l0) (w : World) (hR : RefAt w r v l0) (g cap : Nat) (rs : List Rtr) (hl : rs.length ≤ 1000) (hP : PtrsAt w g (rs.map fun m => some m.r)) (hrs : RefsAt w rs) (hself : ∀ m ∈ rs, m.r = r → m.l = l0) :
    Calls Tryd.prog 15 #[.pointer (some ⟨r, 0, none⟩), .slice (some ⟨g, 0, none⟩) rs.length cap] w fun e w' => RJoinEnds w r v l0 (flatR rs) e w' := by
  have hgl := hg.len
  have HC := Lib.hid (fun W h => copy_any r v l0 (by omega) W h)
  have HR := Lib.hid hR
  have HRS := Lib.hid hrs
  have HP := Lib.hid hP
  have HG := Lib.hid hg
  have HSF := Lib.hid hself
  clear hR hrs hP hg hself
  go_enter Tryd.func15, Tryd.ntmps15
  go_wp2_with (first
    | (go_at_call 28; refine (HC.out _ HR.out).mono ?_; rintro e w1 ⟨rx, vx, rfl, hX1, hrx1, hvx1, hb1⟩; have HX1 := Lib.hid hX1; have HRX := Lib.hid hrx1; have HVX := Lib.hid hvx1; have HB1 := Lib.hid hb1; clear hX1 hrx1 hvx1 hb1))
  go_loopw [6] (fun u wr => ∃ (k : Nat) (cur : List Ent) (vc : Value), k ≤ rs.length ∧ u = .int .i64 k ∧ Hid (addsL l0 (flatR (rs.take k)) = (0, cur)) ∧ Hid (RefAt wr rx vc cur) ∧ Hid (∀ g, vc.ownBlock = some g → w.heap.size ≤ g) ∧ Hid (Below w.heap.size w wr))
    (fun u _ => rs.length - (intOf u).toNat)
  case atStart => exact ⟨0, l0, vx, Nat.zero_le _, rfl, Lib.hid rfl, HX1, HVX, HB1⟩
  case round =>
    obtain ⟨k, cur, vc, hk, rfl, hcur, hX, hvc, hb⟩ := hrel
    by_cases hlt : k < rs.length
    · have hk1 : (k : Int) < (rs.length : Int) := by omega
      have hk0 : (0 : Int) ≤ (k : Int) := by omega
      obtain ⟨m, hm⟩ : ∃ e, rs[k]? = some e := ⟨rs[k], List.getElem?_eq_getElem hlt⟩
      have hc : wr.cell? ⟨g, k, none⟩ = some (.pointer (some ⟨m.r, 0, none⟩)) := (hb.out.cell (p := ⟨g, k, none⟩) HP.out.lt).trans (HP.out.cell k (some m.r) (by rw [List.getElem?_map, hm]; rfl))
      have hmem := List.mem_of_getElem? hm
      have HMM := Lib.hid (HRS.out m hmem)
      have HSM := Lib.hid (HSF.out m hmem)
      have hlen := HMM.out.2.len
      have HT := Lib.hid (flatR_take rs k m hm)
      have HCUT := Lib.hid (flatR_cut rs k m hm)
      have HCM := Lib.hid (fun W h => copy_any m.r m.v m.l (by omega) W h)
      have HPK := Lib.hid (show (rs.map fun m => some m.r)[k]? = some (some m.r) by rw [List.getElem?_map, hm]; rfl)
      clear hm hmem
      have hX0 := hX
      by_cases hself : m.r = r
      all_goals first
        | (have heq : ∀ W, Below w.heap.size w W → (binOp .eql 26 (.pointer (some ⟨m.r, 0, none⟩)) (.pointer (some ⟨r, 0, none⟩))).run Tryd.prog W = .ok (.bool true) W := fun W hW => by
             rw [eql26_any W m.r r _ _ _ _ ((HMM.out.1.kept hW).box) ((HR.out.kept hW).box)]
             simp [hself]
           have HEQ := Lib.hid heq
           have HML := Lib.hid (HSM.out hself)
           clear heq hself
           go_wp2_with (first
             | (go_at_call 28; have hq := HD2; clear hq; refine (HC.out _ (HR.out.kept HB3.out)).mono ?_; rintro e w2 ⟨rc, vd, rfl, hC2, hrc2, hvd2, hb2⟩; rw [← HML.out] at hC2; have HC2 := Lib.hid hC2; have HRC := Lib.hid (Nat.le_trans HS3.out hrc2); have HVD := Lib.hid (fun g hg => Nat.le_trans HS3.out (hvd2 g hg)); have HB2 := Lib.hid (HB3.out.trans (hb2.mono HB3.out.size)); have HX2 := Lib.hid (HX3.out.kept hb2); clear hC2 hrc2 hvd2 hb2)
             | (go_at_call 28; refine (HCM.out _ (HMM.out.1.kept hb.out)).mono ?_; rintro e w3 ⟨rc3, vd3, rfl, hC3, hrc3, hvd3, hb3⟩; have HD2 := Lib.hid hC3; have HS3 := Lib.hid hb3.size; have HB3 := Lib.hid (hb.out.trans (hb3.mono hb.out.size)); have heq := HEQ.out w3 HB3.out; have hcc : w3.cell? ⟨g, k, none⟩ = some (.pointer (some ⟨m.r, 0, none⟩)) := (HB3.out.cell (p := ⟨g, k, none⟩) HP.out.lt).trans (HP.out.cell k (some m.r) HPK.out); have HX3 := Lib.hid (hX.out.kept hb3); clear hC3 hrc3 hvd3 hb3)))
        | (have heq : ∀ W, Below w.heap.size w W → (binOp .eql 26 (.pointer (some ⟨m.r, 0, none⟩)) (.pointer (some ⟨r, 0, none⟩))).run Tryd.prog W = .ok (.bool false) W := fun W hW => by
             rw [eql26_any W m.r r _ _ _ _ ((HMM.out.1.kept hW).box) ((HR.out.kept hW).box)]
             simp [hself]
           have HEQ := Lib.hid heq
           clear heq hself
           go_wp2_with (first
             | (go_at_call 28; refine (HCM.out _ (HMM.out.1.kept hb.out)).mono ?_; rintro e w2 ⟨rc, vd, rfl, hC2, hrc2, hvd2, hb2⟩; have HC2 := Lib.hid hC2; have HRC := Lib.hid hrc2; have HVD := Lib.hid hvd2; have HB2 := Lib.hid (hb.out.trans (hb2.mono hb.out.size)); have heq := HEQ.out w2 HB2.out; have hcc : w2.cell? ⟨g, k, none⟩ = some (.pointer (some ⟨m.r, 0, none⟩)) := (HB2.out.cell (p := ⟨g, k, none⟩) HP.out.lt).trans (HP.out.cell k (some m.r) HPK.out); have HX2 := Lib.hid (hX.out.kept hb2); clear hC2 hrc2 hvd2 hb2)))
      all_goals have HAP : Apart2 rx vc rc vd := ⟨by have := hX0.out.lt; have := HRC.out; omega, fun h => by have := HVD.out _ h; have := hX0.out.lt; omega, fun g hg => ⟨by have := hX0.out.glt hg; have := HRC.out; omega, fun h => by have := hX0.out.glt hg; have := HVD.out _ h; omega⟩⟩
      all_goals rcases HC2.out.shape with ⟨h0, rfl⟩ | ⟨gc, capc, hnz, rfl, hcapc, hcmc, hgrc, hglc, -, -⟩
      all_goals first
        | (have h00 : m.l = [] := h0
           have hcz := HC2.out.cell
           go_loop [8] (fun u => u = .int .i64 0) (fun _ => 0)
           case atStart => rfl
           case round =>
             subst hrel
             go_wp2
             go_roundw
             case rel => exact ⟨k + 1, cur, vc, by omega, by go_num, Lib.hid (by rw [HT.out, h00, List.append_nil]; exact hcur.out), HX2, hvc, HB2⟩
             case measure => simp [intOf]; omega)
        | (have HCM2 := Lib.hid hcmc
           have HAP2 := Lib.hid HAP
           have hcmc' : capc ≤ 9223372036854775807 := by unfold maxLen at hcmc; omega
           clear hcmc HAP hnz
           go_loopw [8] (fun u wi => ∃ (j : Nat) (cu : List Ent) (vy : Value), j ≤ m.l.length ∧ u = .int .i64 j ∧ Hid (addsL l0 (flatR (rs.take k) ++ m.l.take j) = (0, cu)) ∧ Hid (RefAt wi rx vy cu) ∧ Hid (∀ g, vy.ownBlock = some g → w.heap.size ≤ g) ∧ Hid (RefAt wi rc (.slice (some ⟨gc, 0, none⟩) m.l.length capc) m.l) ∧ Hid (Apart2 rx vy rc (.slice (some ⟨gc, 0, none⟩) m.l.length capc)) ∧ Hid (Below w.heap.size w wi))
             (fun u _ => m.l.length - (intOf u).toNat)
           case atStart => exact ⟨0, cur, vc, Nat.zero_le _, rfl, Lib.hid (by simpa using hcur.out), HX2, hvc, HC2, HAP2, HB2⟩
           case round =>
             obtain ⟨j, cu, vy, hj, rfl, hcu, hX3, hvy, hC3, hA3, hB3⟩ := hrel
             have hcz := hC3.out.cell
             by_cases hjl : j < m.l.length
             · have hj1 : (j : Int) < (m.l.length : Int) := by omega
               have hj0 : (0 : Int) ≤ (j : Int) := by omega
               obtain ⟨e, he⟩ : ∃ e, m.l[j]? = some e := ⟨m.l[j], List.getElem?_eq_getElem hjl⟩
               have hmem := List.mem_of_getElem? he
               have hfit := HMM.out.2.fit e hmem
               have hnam := HMM.out.2.nam e hmem
               have q0 := hC3.out.at0 he
               have q1 := hC3.out.at1 he
               have q2 := hC3.out.at2 he
               have hgc : Good cu := by have := good_addsL (flatR (rs.take k) ++ m.l.take j) HG.out; rw [hcu.out] at this; exact this
               have hd : (⟨e.1.toArray⟩ : ByteArray).data.toList = e.1 := by simp
               have HADD := Lib.hid (fun W h => radd_any rx vy cu hgc W h ⟨e.1.toArray⟩ (small (by rw [hd]; exact hnam)) e.2.1 e.2.2)
               rw [hd] at HADD
               have HE := Lib.hid he
               have htk : m.l.take (j + 1) = m.l.take j ++ [e] := by rw [List.take_add_one, he]; rfl
               have hdr : m.l = m.l.take j ++ e :: m.l.drop (j + 1) := by
                 conv => lhs; rw [← List.take_append_drop j m.l]
                 rw [List.drop_eq_getElem?_toList_append, he]
                 rfl
               have HTK := Lib.hid htk
               have HDR := Lib.hid hdr
               clear he hmem hfit hnam hgc htk hdr hd
               by_cases hco : (addL cu e.1 e.2.1 e.2.2).1 = 0
               · have HS := Lib.hid (addsL_snoc e hcu.out hco)
                 have hco' : ((addL cu e.1 e.2.1 e.2.2).1 != 0) = false := by simp [hco]
                 clear hco
                 generalize addL cu e.1 e.2.1 e.2.2 = res at *
                 go_wp2_with fail
                 go_region_held3 (fun w' => w'.cell? ⟨rc, 0, none⟩ = some (.slice (some ⟨gc, 0, none⟩) m.l.length capc) ∧ w'.cell? ⟨gc, j * 3, none⟩ = some (.string ⟨e.1.toArray⟩) ∧ w'.cell? ⟨gc, j * 3 + 1, none⟩ = some (.int .i64 e.2.1) ∧ w'.cell? ⟨gc, j * 3 + 2, none⟩ = some (.int .i64 e.2.2))
                   (first | exact ⟨hcz, q0, q1, q2⟩ | exact hk5)
                   (first
                     | (go_at_call 23; refine (HADD.out _ (hX3.out.kept (Below.refl _ _).drew)).mono ?_; rintro e' w5 ⟨rfl, v5, hX5, hF5⟩; have HST := Lib.hid (hA3.out.step (hC3.out.kept (Below.refl _ _).drew) hF5); have HX5 := Lib.hid hX5; have HF5 := Lib.hid hF5; have hk5 := HST.out.1.all4 HE.out; clear hX5 hF5))
                 go_wp2
                 go_roundw
                 case rel =>
                   refine ⟨j + 1, res.2, v5, by omega, by go_num, Lib.hid (by rw [HTK.out, ← List.append_assoc]; exact HS.out), HX5, Lib.hid (fun g hg => ?_), Lib.hid HST.out.1, Lib.hid HST.out.2, Lib.hid (hB3.out.drew.trans (HF5.out.toBelow hB3.out.size HRX.out hvy.out))⟩
                   rcases HF5.out.new g hg with h | h
                   · exact hvy.out g h
                   · exact Nat.le_trans hB3.out.size h
                 case measure => simp [intOf]; omega
               · have HS := Lib.hid (addsL_stop e (m.l.drop (j + 1) ++ flatR (rs.drop (k + 1))) hcu.out hco)
                 have HNZ2 := Lib.hid hco
                 have hco' : ((addL cu e.1 e.2.1 e.2.2).1 != 0) = true := by simp [hco]
                 clear hco
                 generalize addL cu e.1 e.2.1 e.2.2 = res at *
                 go_wp2_with fail
                 go_region_held3 (fun w' => w'.cell? ⟨rc, 0, none⟩ = some (.slice (some ⟨gc, 0, none⟩) m.l.length capc) ∧ w'.cell? ⟨gc, j * 3, none⟩ = some (.string ⟨e.1.toArray⟩) ∧ w'.cell? ⟨gc, j * 3 + 1, none⟩ = some (.int .i64 e.2.1) ∧ w'.cell? ⟨gc, j * 3 + 2, none⟩ = some (.int .i64 e.2.2))
                   (first | exact ⟨hcz, q0, q1, q2⟩ | exact hk5)
                   (first
                     | (go_at_call 23; refine (HADD.out _ (hX3.out.kept (Below.refl _ _).drew)).mono ?_; rintro e' w5 ⟨rfl, v5, hX5, hF5⟩; have HST := Lib.hid (hA3.out.step (hC3.out.kept (Below.refl _ _).drew) hF5); have HF5 := Lib.hid hF5; have hk5 := HST.out.1.all4 HE.out; clear hX5 hF5))
                 go_wp2
                 go_ret
                 have hflat : flatR rs = flatR (rs.take k) ++ m.l.take j ++ e :: (m.l.drop (j + 1) ++ flatR (rs.drop (k + 1))) := by
                   rw [HCUT.out]
                   conv => lhs; rw [HDR.out]
                   simp
                 have hB5 : Below w.heap.size w w5 := hB3.out.drew.trans (HF5.out.toBelow hB3.out.size HRX.out hvy.out)
                 have hcode : (addsL l0 (flatR rs)).1 = res.1 := by rw [hflat]; exact HS.out
                 refine ⟨v, by rw [hcode]; rfl, ?_, below_grown hB5 _, .inl rfl⟩
                 unfold joinL
                 rw [hcode, if_neg HNZ2.out]
                 exact HR.out.kept hB5
             · obtain rfl : j = m.l.length := by omega
               clear hjl
               go_wp2
               go_roundw
               case rel =>
                 refine ⟨k + 1, cu, vy, by omega, by go_num, Lib.hid ?_, hX3, hvy, hB3⟩
                 rw [HT.out]
                 have := hcu.out
                 rwa [List.take_length] at this
               case measure => simp [intOf]; omega)
    · obtain rfl : k = rs.length := by omega
      clear hlt
      have hp1 := (hb.out.cell (p := ⟨r, 0, none⟩) HR.out.lt).trans HR.out.cell
      have hp2 := (hb.out.frozen (p := ⟨r, 0, none⟩) HR.out.lt).trans HR.out.fz
      have hx1 := hX.out.cell
      obtain ⟨A, nn, cc, rfl⟩ := hX.out.form
      go_wp2
      go_ret
      have hc := hcur.out
      rw [List.take_length] at hc
      have hrne : ∀ g, (Value.slice A nn cc).ownBlock = some g → g ≠ r := fun g hg => by have := hvc.out g hg; have := HR.out.lt; omega
      refine ⟨.slice A nn cc, by rw [hc]; rfl, ?_, grown_trans' (below_grown hb.out _) (only_set wr r _), .inr hvc.out⟩
      unfold joinL
      rw [hc, if_pos rfl]
      refine ⟨?_, ?_, hX.out.non⟩
      · have := (hb.out.block r HR.out.lt).trans HR.out.box
        simp [World.setCell, Array.getElem?_modify, this]
      · exact hX.out.own.kept (only_set wr r _) (by
          cases ho : (Value.slice A nn cc).ownBlock with
          | none => exact .inl rfl
          | some g => exact .inr (by simpa using hrne g ho))
end Go.Proofs.YtgoeiejdcpoaaaaDoor
