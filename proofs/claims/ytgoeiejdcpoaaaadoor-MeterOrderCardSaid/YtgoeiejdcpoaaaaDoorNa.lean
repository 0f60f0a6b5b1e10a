/-
  What the document's meter is in memory (RefAt); walks: stevedoreref04.May, (*Meter).At. Part of the proofs of the meter's statements. No condition beyond the theorems' own hypotheses.
-/
import Derived.Test.YtgoeiejdcpoaaaaDoorMi
namespace Go.Proofs.YtgoeiejdcpoaaaaDoor
open Go.RowKit Go.Maps Go.WideAt Go.WideShapes Go.Sort Fl

/-- The letter c may be in a name. -/
def letB (c : UInt8) : Bool := letters.contains c
theorem letB_iff (c : UInt8) : letB c = true ↔ (97 ≤ (c.toNat : Int) ∧ (c.toNat : Int) ≤ 122) ∨ (c.toNat : Int) = 45 := by
  have : ∀ n, n < 256 → (letB (UInt8.ofNat n) = true ↔ (97 ≤ (n : Int) ∧ (n : Int) ≤ 122) ∨ (n : Int) = 45) := by decide +kernel
  have h := this c.toNat c.toNat_lt
  rwa [UInt8.ofNat_toNat] at h
theorem mayB_all (l : List UInt8) : mayB l = (decide (1 ≤ l.length) && decide (l.length ≤ 32) && l.all letB) := rfl
set_option maxHeartbeats 800000 in
theorem rmay_any (s : ByteArray) (hs : s.size ≤ maxLen) (w : World) : Calls Tryd.prog 16 #[.string s] w fun e w' => e = .returned (.bool (mayB s.data.toList)) ∧ w = w' := by
  have hl : s.data.toList.length = s.size := by simp
  unfold maxLen at hs
  by_cases h0 : 1 ≤ s.size
  · by_cases h1 : s.size ≤ 32
    · have e1 : decide ((s.size : Int) < 1) = false := by simp; omega
      have e2 : decide ((32 : Int) < (s.size : Int)) = false := by simp; omega
      have hB : ∀ b : Bool, s.data.toList.all letB = b → mayB s.data.toList = b := by
        intro b hb
        rw [mayB_all, hb, hl]
        simp [h0, h1]
      have HB := Lib.hid hB
      clear hB
      go_enter Tryd.func16, Tryd.ntmps16
      go_wp2
      go_loop [3] (fun i => ∃ k : Nat, k ≤ s.size ∧ i = .int .i64 k ∧ Hid (∀ j, j < k → ∀ c, s.data.toList[j]? = some c → letB c = true)) (fun i => s.size - (intOf i).toNat)
      case atStart => exact ⟨0, Nat.zero_le _, rfl, Lib.hid (fun j hj => by omega)⟩
      case round =>
        obtain ⟨k, hk, rfl, hall⟩ := hrel
        by_cases hlt : k < s.size
        · have hk1 : (k : Int) < (s.size : Int) := by omega
          have hk0 : (0 : Int) ≤ (k : Int) := by omega
          have hck : s.data.toList[k]? = some s[k] := by
            rw [List.getElem?_eq_getElem (by rw [hl]; exact hlt)]; rfl
          have HCK := Lib.hid hck
          clear hck
          have hn := letB_iff s[k]
          have hall' : letB s[k] = true → ∀ j, j < k + 1 → ∀ c, s.data.toList[j]? = some c → letB c = true := by
            intro hb j hj c hc
            rcases Nat.lt_or_ge j k with hjk | hjk
            · exact hall.out j hjk c hc
            · obtain rfl : j = k := by omega
              have := HCK.out
              rw [this] at hc
              cases hc
              exact hb
          have HAL := Lib.hid hall'
          clear hall'
          cases hb : letB s[k]
          · have hno : ¬ ((97 ≤ (s[k].toNat : Int) ∧ (s[k].toNat : Int) ≤ 122) ∨ (s[k].toNat : Int) = 45) := fun h => by rw [hn.2 h] at hb; cases hb
            have hres : mayB s.data.toList = false := HB.out false (List.all_eq_false.2 ⟨s[k], List.mem_of_getElem? HCK.out, by rw [hb]; simp⟩)
            have HRES := Lib.hid hres
            clear hres hn hb
            by_cases ha : (s[k].toNat : Int) < 97
            · have n45 : ((s[k].toNat : Int) == 45) = false := by simp; omega
              have n45' : ((s[k].toNat : Int) != 45) = true := by simp; omega
              clear hno
              go_wp2
              go_ret
              exact ⟨by rw [HRES.out]; rfl, rfl⟩
            · have n122 : (122 : Int) < (s[k].toNat : Int) := by omega
              have n45 : ((s[k].toNat : Int) == 45) = false := by simp; omega
              have n45' : ((s[k].toNat : Int) != 45) = true := by simp; omega
              have ha' : decide ((s[k].toNat : Int) < 97) = false := by simp; omega
              clear hno
              go_wp2
              go_ret
              exact ⟨by rw [HRES.out]; rfl, rfl⟩
          · have hyes := hn.1 hb
            have HAL2 := Lib.hid (HAL.out hb)
            clear hn hb HAL
            by_cases ha : (s[k].toNat : Int) = 45
            · have n45 : ((s[k].toNat : Int) == 45) = true := by simp; omega
              have n45' : ((s[k].toNat : Int) != 45) = false := by simp; omega
              have ha' : (s[k].toNat : Int) < 97 := by omega
              have HA := Lib.hid ha
              clear ha hyes
              go_wp2
              go_round
              case rel => exact ⟨k + 1, by omega, by go_num, HAL2⟩
              case measure => simp [intOf]; omega
            · have ha' : decide ((s[k].toNat : Int) < 97) = false := by simp; omega
              have hb' : decide ((122 : Int) < (s[k].toNat : Int)) = false := by simp; omega
              clear ha hyes
              go_wp2
              go_round
              case rel => exact ⟨k + 1, by omega, by go_num, HAL2⟩
              case measure => simp [intOf]; omega
        · obtain rfl : k = s.size := by omega
          clear hlt
          have hres : mayB s.data.toList = true := HB.out true (List.all_eq_true.2 fun c hc => by
            obtain ⟨j, hj⟩ := List.getElem?_of_mem hc
            exact hall.out j (by have := (List.getElem?_eq_some_iff.1 hj).1; omega) c hj)
          have HRES := Lib.hid hres
          clear hres
          go_wp2
          go_ret
          exact ⟨by rw [HRES.out]; rfl, rfl⟩
    · have e1 : decide ((s.size : Int) < 1) = false := by simp; omega
      have e2 : (32 : Int) < (s.size : Int) := by omega
      have hres : mayB s.data.toList = false := by rw [mayB_all, hl]; simp [h1]
      rw [hres]
      clear hres h0 h1 hl
      go_enter Tryd.func16, Tryd.ntmps16
      go_wp2
      go_ret
      exact ⟨rfl, rfl⟩
  · have e1 : (s.size : Int) < 1 := by omega
    have hres : mayB s.data.toList = false := by rw [mayB_all, hl]; simp [h0]
    rw [hres]
    clear hres h0 hl
    go_enter Tryd.func16, Tryd.ntmps16
    go_wp2
    go_ret
    exact ⟨rfl, rfl⟩

/-- The document's meter, at block r. -/
structure RefAt (w : World) (r : Nat) (v : Value) (l : List Ent) : Prop where
  box : w.heap[r]? = some (.cells #[v] 58 (0, 0))
  own : w.ownsRow 0 49 3 v l.length (cnts l)
  non : l = [] → v = .slice none 0 0
theorem RefAt.cell {w : World} {r : Nat} {v : Value} {l : List Ent} (h : RefAt w r v l) : w.cell? ⟨r, 0, none⟩ = some v := by simp [World.cell?, h.box]
theorem RefAt.fz {w : World} {r : Nat} {v : Value} {l : List Ent} (h : RefAt w r v l) : w.frozen? ⟨r, 0, none⟩ = false := by simp [World.frozen?, h.box]
theorem RefAt.lt {w : World} {r : Nat} {v : Value} {l : List Ent} (h : RefAt w r v l) : r < w.heap.size := (Array.getElem?_eq_some_iff.1 h.box).1
theorem RefAt.ne {w : World} {r : Nat} {v : Value} {l : List Ent} (h : RefAt w r v l) : v.ownBlock ≠ some r := by
  rcases h.own.2 with ⟨rfl, _⟩ | ⟨g, cap, cur, rfl, _, hg, _⟩
  · simp [Value.ownBlock]
  · intro e
    obtain rfl : g = r := by simpa [Value.ownBlock] using e
    rw [h.box] at hg
    cases hg
theorem RefAt.glt {w : World} {r : Nat} {v : Value} {l : List Ent} (h : RefAt w r v l) {g : Nat} (hg : v.ownBlock = some g) : g < w.heap.size := (h.own.lt g hg).2
/-- What lies elsewhere may turn. -/
theorem RefAt.keep {w w' : World} {r : Nat} {v : Value} {l : List Ent} (h : RefAt w r v l) (h1 : w'.heap[r]? = w.heap[r]?) (h2 : ∀ g, v.ownBlock = some g → w'.heap[g]? = w.heap[g]?) : RefAt w' r v l := by
  refine ⟨h1.trans h.box, ⟨h.own.1, ?_⟩, h.non⟩
  rcases h.own.2 with hn | ⟨g, cap, cur, rfl, hb, hg, hrest⟩
  · exact .inl hn
  · exact .inr ⟨g, cap, cur, rfl, hb, (h2 g rfl).trans hg, hrest⟩
theorem RefAt.kept {w w' : World} {r : Nat} {v : Value} {l : List Ent} (h : RefAt w r v l) (hb : Below w.heap.size w w') : RefAt w' r v l :=
  h.keep (hb.block _ h.lt) (fun g hg => hb.block _ (h.glt hg))
/-- It is nil, or the head of a row whose cells are known. -/
theorem RefAt.shape {w : World} {r : Nat} {v : Value} {l : List Ent} (h : RefAt w r v l) : (l = [] ∧ v = .slice none 0 0) ∨
    ∃ g cap, l ≠ [] ∧ v = .slice (some ⟨g, 0, none⟩) l.length cap ∧ l.length ≤ cap ∧ cap ≤ maxLen ∧ g ≠ r ∧ g < w.heap.size ∧ (∀ i, w.frozen? ⟨g, i, none⟩ = false) ∧
      ∀ (k : Nat) (e : Ent), l[k]? = some e → ∀ j, j < 3 → w.cell? ⟨g, k * 3 + j, none⟩ = (cnt e)[j]? := by
  by_cases hl : l = []
  · exact .inl ⟨hl, h.non hl⟩
  · rcases h.own.2 with ⟨_, h0⟩ | ⟨g, cap, cur, rfl, hbase, hgb, r1, r2, r3, r4⟩
    · exact absurd (List.eq_nil_of_length_eq_zero h0) hl
    · refine .inr ⟨g, cap, hl, rfl, r1, r2, fun e => h.ne (by simp [Value.ownBlock, e]), h.glt rfl, fun i => by simp [World.frozen?, hgb], fun k e he j hj => ?_⟩
      have hkl := (List.getElem?_eq_some_iff.1 he).1
      have h4 := congrArg (fun t => t[k * 3 + j]?) r4
      simp only [List.getElem?_take] at h4
      rw [if_pos (by omega)] at h4
      rw [cnts_at l k e he j hj] at h4
      have h5 : cur[k * 3 + j]? = (cnt e)[j]? := by simpa using h4
      simp [World.cell?, hgb, h5]
end Go.Proofs.YtgoeiejdcpoaaaaDoor
