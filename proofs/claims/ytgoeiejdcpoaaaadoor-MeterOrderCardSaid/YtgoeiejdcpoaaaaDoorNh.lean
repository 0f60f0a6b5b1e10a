/-
  Walks: the law's alike; the law's heavy. Part of the proofs of the meter's statements. No condition beyond the theorems' own hypotheses.
-/
import Derived.Test.YtgoeiejdcpoaaaaDoorNg
import Derived.Laws.StructEq
import Derived.Deep.QuietTactic
import Derived.BigQuiet
namespace Go.Proofs.YtgoeiejdcpoaaaaDoor
open Go.RowKit Go.Maps Go.WideAt Go.WideShapes Go.Sort Fl

theorem neq49 (s : ByteArray) (a b : Int) (w : World) : (binOp .neq 49 (.agg #[.string s, .int .i64 a, .int .i64 b]) (.agg #[.string s, .int .i64 a, .int .i64 b])).run Tryd.prog w = .ok (.bool false) w := by
  rw [run_neq_struct, run_equalIn_struct w 9999 49 _ _ (by kernel_rfl) (by kernel_rfl)]
  have e : ∃ l, (Tryd.prog.fieldsOf 49).toList = l := ⟨_, rfl⟩
  obtain ⟨l, hl⟩ := e
  simp [Op.eqFields, go_sem]
theorem q_left {P : Program} {f : FuncId} {args : Array Value} {w : World} {n : Nat} {v : Value} (h : Calls P f args (w.drewN n) fun e w' => e = .returned v ∧ w.drewN n = w') :
    Calls P f args (w.drewN n) fun e w'' => e = .returned v ∧ ∃ m, w'' = w.drewN m := h.mono fun _ _ ⟨he, hm⟩ => ⟨he, n, hm.symm⟩
/-- A row of counters: nil, or cells that are known. -/
theorem row_shape {w : World} {B n : Nat} {v : Value} {l : List Ent} (h : w.ownsRow B 49 3 v n (cnts l)) (hn : n = l.length) (hnil : v = .slice none 0 0 ↔ l = []) : (l = [] ∧ v = .slice none 0 0) ∨
    ∃ g cap, l ≠ [] ∧ v = .slice (some ⟨g, 0, none⟩) l.length cap ∧ l.length ≤ cap ∧ cap ≤ maxLen ∧ B ≤ g ∧ g < w.heap.size ∧
      ∀ (k : Nat) (e : Ent), l[k]? = some e → ∀ j, j < 3 → w.cell? ⟨g, k * 3 + j, none⟩ = (cnt e)[j]? := by
  subst hn
  by_cases hl : l = []
  · exact .inl ⟨hl, hnil.2 hl⟩
  · rcases h.2 with ⟨_, h0⟩ | ⟨g, cap, cur, rfl, hbase, hgb, r1, r2, r3, r4⟩
    · exact absurd (List.eq_nil_of_length_eq_zero h0) hl
    · refine .inr ⟨g, cap, hl, rfl, r1, r2, hbase, (h.lt g rfl).2, fun k e he j hj => ?_⟩
      have hkl := (List.getElem?_eq_some_iff.1 he).1
      have h4 := congrArg (fun t => t[k * 3 + j]?) r4
      simp only [List.getElem?_take] at h4
      rw [if_pos (by omega)] at h4
      rw [cnts_at l k e he j hj] at h4
      have h5 : cur[k * 3 + j]? = (cnt e)[j]? := by simpa using h4
      simp [World.cell?, hgb, h5]
theorem row_some {w : World} {B : Nat} {v : Value} {l : List Ent} (h : w.ownsRow B 49 3 v l.length (cnts l)) (hnil : v = .slice none 0 0 ↔ l = []) (hnz : l ≠ []) :
    ∃ g cap, v = .slice (some ⟨g, 0, none⟩) l.length cap ∧ l.length ≤ cap ∧ cap ≤ maxLen ∧ B ≤ g ∧ g < w.heap.size ∧
      ∀ (k : Nat) (e : Ent), l[k]? = some e → ∀ j, j < 3 → w.cell? ⟨g, k * 3 + j, none⟩ = (cnt e)[j]? := by
  rcases row_shape h rfl hnil with ⟨h0, _⟩ | ⟨g, cap, _, h1⟩
  · exact absurd h0 hnz
  · exact ⟨g, cap, h1⟩
set_option maxHeartbeats 3200000 in
set_option maxRecDepth 20000 in
theorem alike_any (B Q p b r : Nat) (v : Value) (l : List Ent) (hg : Good l) (w : World) (hB : Both B w Q p b r v l) :
    Calls Tryd.prog 10 #[.pointer (some ⟨p, 0, none⟩), .pointer (some ⟨r, 0, none⟩)] w fun e w' => e = .returned (.bool true) ∧ Below w.heap.size w w' := by
  have HA := Lib.hid (all_any Q p b l hg w hB.mt)
  have HT := Lib.hid (fun W (hM : MeterAt W Q p b l) => total_any Q p b l hg W hM)
  have HR := Lib.hid (fun W (hR : RefAt W r v l) => rtotal_any r v l hg W hR)
  have htl := tot_le l
  have HI := Lib.hid (is_any (tot l).1 (tot l).2 (tot l).1 (tot l).2 (by omega) (by omega) (by omega) (by omega))
  have HB := Lib.hid hB
  have hlen := hg.len
  have HG := Lib.hid hg
  have hc0 := hB.rf.cell
  have hne := neq49
  clear hg htl
  rcases hB.rf.shape with ⟨rfl, rfl⟩ | ⟨g, cap, hnz, rfl, hcap, hcm, hgr, hgl, hfz, hcell⟩
  · clear hB
    go_enter Tryd.func10, Tryd.ntmps10
    go_wp2_with (first
      | (go_at_call 19; refine HA.out.mono ?_; rintro e w2 ⟨v2, rfl, hrow, hnil, hb2⟩; obtain rfl := hnil.2 rfl; have HB2 := Lib.hid hb2; have hc2 := (hb2.cell (p := ⟨r, 0, none⟩) HB.out.rf.lt).trans hc0; clear hrow hnil hb2))
    go_loop [6] (fun u => u = .int .i64 0) (fun _ => 0)
    case atStart => rfl
    case round =>
      subst hrel
      go_wp2_with (first
        | (go_at_call 12; refine (HI.out _).mono ?_; rintro e w' ⟨rfl, rfl⟩)
        | (go_at_call 20; refine (HT.out _ (HB.out.mt.kept HB2.out)).mono ?_; rintro e w3 ⟨rfl, hb3⟩; have HB3 := Lib.hid (HB2.out.trans (hb3.mono HB2.out.size)); clear hb3)
        | (go_at_call 24; refine (HR.out _ (HB.out.rf.kept HB2.out)).mono ?_; rintro e w' ⟨rfl, rfl⟩))
      go_ret
      exact ⟨by simp, HB3.out⟩
  · have HC := Lib.hid hcell
    have HNZ := Lib.hid hnz
    clear hB hcell hfz hnz
    unfold maxLen at hcm
    go_enter Tryd.func10, Tryd.ntmps10
    go_wp2_with (first
      | (go_at_call 19; refine HA.out.mono ?_; rintro e w2 ⟨v2, rfl, hrow, hnil, hb2⟩; obtain ⟨g2, cap2, rfl, hcap2, hcm2, hgB, hgl2, hcell2⟩ := row_some hrow hnil HNZ.out; have HB2 := Lib.hid hb2; have hc2 := (hb2.cell (p := ⟨r, 0, none⟩) HB.out.rf.lt).trans hc0; have HC2 := Lib.hid hcell2; clear hrow hnil hb2 hcell2))
    unfold maxLen at hcm2
    go_loopw [6] (fun u wr => ∃ k : Nat, k ≤ l.length ∧ u = .int .i64 k ∧ Hid (Below w2.heap.size w2 wr)) (fun u _ => l.length - (intOf u).toNat)
    case atStart => exact ⟨0, Nat.zero_le _, rfl, Lib.hid (Below.refl _ _)⟩
    case round =>
      obtain ⟨k, hk, rfl, hbk⟩ := hrel
      by_cases hlt : k < l.length
      · have hk1 : (k : Int) < (l.length : Int) := by omega
        have hk0 : (0 : Int) ≤ (k : Int) := by omega
        obtain ⟨e, he⟩ : ∃ e, l[k]? = some e := ⟨l[k], List.getElem?_eq_getElem hlt⟩
        have hmem := List.mem_of_getElem? he
        have hfit := HG.out.fit e hmem
        have hup2 : ∀ b j u, b < w2.heap.size → w2.cell? ⟨b, j, none⟩ = u → wr.cell? ⟨b, j, none⟩ = u := fun b j u hlt h => (hbk.out.cell (p := ⟨b, j, none⟩) hlt).trans h
        have hgz : g < w2.heap.size := Nat.lt_of_lt_of_le hgl HB2.out.size
        have hup : ∀ j u, w.cell? ⟨g, j, none⟩ = u → wr.cell? ⟨g, j, none⟩ = u := fun j u h => hup2 _ _ _ hgz ((HB2.out.cell (p := ⟨g, j, none⟩) hgl).trans h)
        have p0 := hup _ _ (HC.out k e he 0 (by omega))
        have p1 := hup _ _ (HC.out k e he 1 (by omega))
        have p2 := hup _ _ (HC.out k e he 2 (by omega))
        have q0 := hup2 _ _ _ hgl2 (HC2.out k e he 0 (by omega))
        have q1 := hup2 _ _ _ hgl2 (HC2.out k e he 1 (by omega))
        have q2 := hup2 _ _ _ hgl2 (HC2.out k e he 2 (by omega))
        have hcr := hup2 _ _ _ (Nat.lt_of_lt_of_le HB.out.rf.lt HB2.out.size) hc2
        simp only [cnt, List.getElem?_cons_zero, List.getElem?_cons_succ, Nat.add_zero] at p0 p1 p2 q0 q1 q2
        have HGET := Lib.hid (fun n => get_has Q p b l HG.out (wr.drewN n) (((HB.out.mt.kept HB2.out).kept hbk.out).kept (below_drewN (Below.refl _ _) n)) e hmem)
        have HIS := Lib.hid (fun n => is_any e.2.1 e.2.2 e.2.1 e.2.2 (by omega) (by omega) (by omega) (by omega) (wr.drewN n))
        clear hup hup2 hmem hfit he
        unfold val at HGET
        go_wp2_with fail
        go_quiet ((first | (go_at_call 13; exact q_left (HGET.out _)) | (go_at_call 12; exact q_left (HIS.out _))))
        go_wp2
        go_roundw
        case rel => exact ⟨k + 1, by omega, by go_num, Lib.hid (below_drewN hbk.out _)⟩
        case measure => simp [intOf]; omega
      · obtain rfl : k = l.length := by omega
        clear hlt
        go_wp2_with (first
          | (go_at_call 12; refine (HI.out _).mono ?_; rintro e w' ⟨rfl, rfl⟩)
          | (go_at_call 20; refine (HT.out _ ((HB.out.mt.kept HB2.out).kept hbk.out)).mono ?_; rintro e w3 ⟨rfl, hb3⟩; have HB3 := Lib.hid (HB2.out.trans ((hbk.out.trans (hb3.mono hbk.out.size)).mono HB2.out.size)); clear hb3)
          | (go_at_call 24; refine (HR.out _ ((HB.out.rf.kept HB2.out).kept hbk.out)).mono ?_; rintro e w' ⟨rfl, rfl⟩))
        go_ret
        exact ⟨by simp, HB3.out⟩
end Go.Proofs.YtgoeiejdcpoaaaaDoor
