/-
  A table in memory (TabAt), and (*Table).Put of a new pair. Part of the proof of TableFull. No condition beyond the theorems' own hypotheses.
-/
import Derived.Test.YtmphajjaepahkaaD
import Derived.Test.YtmphajjaepahkaaE
import Derived.Maps.OwnOps
import Derived.Maps.RangeWalk
namespace Go.Proofs.Ytmphajjaepahkaa
open Go.RowKit

abbrev DV := DataW Value
/-- Whatever value an entry holds is read as itself. -/
def RH (v : Value) : Option (DataW Value × List MemPlace) := some (.held v, [])
def tcells (b : Nat) (n m : Int) : Array Value :=
  #[.map (some (b + 2)), .map (some (b + 3)), .map (some (b + 4)), .map (some (b + 5)), .map (some (b + 6)), .map (some (b + 7)), .map (some (b + 8)), .map (some (b + 9)), .map (some b), .int .i64 n, .int .i64 m]
/-- A table: its ten blocks lie in a row. -/
structure TabAt (w : World) (Q b : Nat) (D : Nat → DV) (E : DV) (n m : Int) : Prop where
  tab : w.heap[b + 1]? = some (.cells (tcells b n m) 47 (0, 0))
  shards : ∀ s, s < 8 → w.ownsMap Try.prog 31 RH (b + 2 + s) Q (D s)
  ears : w.ownsMap Try.prog 33 RH b Q E
/-- What was there but for the table's ten blocks is as it was. -/
theorem zero50 (w : World) : (zeroValue 50).run Try.prog w = .ok (.agg #[.int .u64 0, .int .i64 0]) w := by kernel_rfl
theorem zero29 (w : World) : (zeroValue 29).run Try.prog w = .ok (.agg #[.int .u32 0, .int .u16 0]) w := by kernel_rfl

section
variable {P : Program} {w : World} {ops : Array Oper} {rest : List Oper} {o : Oper} {a : Act} {Q : Exit → Act → World → Prop}
/-- 'v, ok := m[k]' of a key that is not there. -/
theorem look_no (hg : o.guard = none) (m x : Operand) (t : TypeId) (hop : o.op = Op.lookup t m x true)
    (k e : TypeId) (K : Maps.Keyed P k) (ht : P.underlying t = some (.map k e)) {z : Value} (hz : (zeroValue e).run P w = .ok z w) (b n : Nat) (D : DV)
    (hm : a.eval m = .map (some b)) (hown : w.ownsMap P k RH b n D) (key : Value) (kl : Lit) (hx : a.eval x = key) (hkey : keyOf P k key = some kl) (hno : Maps.has D kl = false)
    (hK : wpList P ops Q rest (a.put o.dst (.tuple #[z, .bool false])) w) : wpList P ops Q (o :: rest) a w := by
  refine wpList_lookup_own_ok w hg m x t hop k e K ht RH hz (.held z) [] rfl b n D hm hown key kl hx hkey fun v ps hv => ?_
  have : v = z := by
    have h := hv
    rw [Maps.atKey_of_not_has hno] at h
    simp [RH] at h
    exact h.1
  subst this
  rw [hno]
  exact hK
/-- .. of one that is there. -/
theorem look_yes (hg : o.guard = none) (m x : Operand) (t : TypeId) (hop : o.op = Op.lookup t m x true)
    (k e : TypeId) (K : Maps.Keyed P k) (ht : P.underlying t = some (.map k e)) {z : Value} (hz : (zeroValue e).run P w = .ok z w) (b n : Nat) (D : DV)
    (hm : a.eval m = .map (some b)) (hown : w.ownsMap P k RH b n D) (key : Value) (kl : Lit) (hx : a.eval x = key) (hkey : keyOf P k key = some kl) (v0 : Value) (hyes : ∀ z, D.atKey kl z = .held v0)
    (hK : wpList P ops Q rest (a.put o.dst (.tuple #[v0, .bool true])) w) : wpList P ops Q (o :: rest) a w := by
  refine wpList_lookup_own_ok w hg m x t hop k e K ht RH hz (.held z) [] rfl b n D hm hown key kl hx hkey fun v ps hv => ?_
  have : v = v0 := by
    have h := hv
    rw [hyes] at h
    simp [RH] at h
    exact h.1
  subst this
  rw [Maps.has_true_of_atKey hyes]
  exact hK
end
structure TF (b : Nat) (w w' : World) : Prop where
  os : w'.os = w.os
  tape : w'.tape = w.tape
  output : w'.output = w.output
  size : w.heap.size ≤ w'.heap.size
  block : ∀ k, k < w.heap.size → (k < b ∨ b + 10 ≤ k) → w'.heap[k]? = w.heap[k]?
theorem TF.refl (b : Nat) (w : World) : TF b w w := ⟨rfl, rfl, rfl, Nat.le_refl _, fun _ _ _ => rfl⟩
theorem TF.trans {b : Nat} {w w1 w2 : World} (h : TF b w w1) (g : TF b w1 w2) : TF b w w2 :=
  ⟨g.os.trans h.os, g.tape.trans h.tape, g.output.trans h.output, Nat.le_trans h.size g.size, fun k hk hb => (g.block k (Nat.lt_of_lt_of_le hk h.size) hb).trans (h.block k hk hb)⟩
theorem TF.of_below {b : Nat} {w w1 : World} (h : Below w.heap.size w w1) : TF b w w1 := ⟨h.os, h.tape, h.output, h.size, fun k hk _ => h.block k hk⟩
theorem TF.of_grown {b k : Nat} {w w1 : World} (h : w.grownBy w1 (some k)) (h0 : b ≤ k) (h1 : k < b + 10) : TF b w w1 :=
  ⟨h.os, h.tape, h.output, h.size, fun j hj hb => h.block j hj (by simp; omega)⟩
theorem TF.setCell {b k o : Nat} {w : World} (v : Value) (h0 : b ≤ k) (h1 : k < b + 10) : TF b w (w.setCell ⟨k, o, none⟩ v) :=
  ⟨rfl, rfl, rfl, by simp, fun j hj hb => Below.heap_setCell _ _ _ _ (by simp; omega)⟩

theorem TabAt.kept {w w' : World} {Q b : Nat} {D : Nat → DV} {E : DV} {n m : Int} (h : TabAt w Q b D E n m) (hb : Below w.heap.size w w') : TabAt w' Q b D E n m := by
  obtain ⟨h1, h2, h3⟩ := h
  refine ⟨(hb.block _ (Array.getElem?_eq_some_iff.1 h1).1).trans h1, fun s hs => ?_, ?_⟩
  · exact (h2 s hs).kept (row := none) ⟨hb.os, hb.tape, hb.output, hb.size, fun k hk _ => hb.block k hk⟩ (by simp)
  · exact h3.kept (row := none) ⟨hb.os, hb.tape, hb.output, hb.size, fun k hk _ => hb.block k hk⟩ (by simp)
theorem TabAt.cell {w : World} {Q b : Nat} {D : Nat → DV} {E : DV} {n m : Int} (h : TabAt w Q b D E n m) (i : Nat) : w.cell? ⟨b + 1, i, none⟩ = (tcells b n m)[i]? := by
  simp [World.cell?, h.tab]
theorem TabAt.frozen {w : World} {Q b : Nat} {D : Nat → DV} {E : DV} {n m : Int} (h : TabAt w Q b D E n m) (i : Nat) : w.frozen? ⟨b + 1, i, none⟩ = false := by
  simp [World.frozen?, h.tab]
theorem TabAt.ne {w : World} {Q b : Nat} {D : Nat → DV} {E : DV} {n m : Int} (h : TabAt w Q b D E n m) (s : Nat) (hs : s < 8) : b + 1 ≠ b + 2 + s := by omega
theorem TabAt.tab_grown {w w' : World} {Q b : Nat} {D : Nat → DV} {E : DV} {n m : Int} {k : Nat} (h : TabAt w Q b D E n m) (hg : w.grownBy w' (some k)) (hk : k ≠ b + 1) : w'.heap[b + 1]? = some (.cells (tcells b n m) 47 (0, 0)) :=
  (hg.block _ (Array.getElem?_eq_some_iff.1 h.tab).1 (by simp; omega)).trans h.tab
theorem TabAt.cell_grown {w w' : World} {Q b : Nat} {D : Nat → DV} {E : DV} {n m : Int} {s : Nat} (h : TabAt w Q b D E n m) (hg : w.grownBy w' (some (b + 2 + s))) (i : Nat) : w'.cell? ⟨b + 1, i, none⟩ = (tcells b n m)[i]? := by
  simp [World.cell?, h.tab_grown hg (by omega)]
theorem TabAt.frozen_grown {w w' : World} {Q b : Nat} {D : Nat → DV} {E : DV} {n m : Int} {s : Nat} (h : TabAt w Q b D E n m) (hg : w.grownBy w' (some (b + 2 + s))) (i : Nat) : w'.frozen? ⟨b + 1, i, none⟩ = false := by
  simp [World.frozen?, h.tab_grown hg (by omega)]
def upd (D : Nat → DV) (s : Nat) (d : DV) : Nat → DV := fun k => if k = s then d else D k
theorem TabAt.more {w : World} {Q Q' b : Nat} {D : Nat → DV} {E : DV} {n m : Int} (h : TabAt w Q b D E n m) (hq : Q ≤ Q') : TabAt w Q' b D E n m :=
  ⟨h.tab, fun s hs => (h.shards s hs).mono hq, h.ears.mono hq⟩
theorem TabAt.upd {w w' : World} {Q b : Nat} {D : Nat → DV} {E : DV} {n m : Int} (h : TabAt w Q b D E n m) {s : Nat} (hs : s < 8) {d : DV} (hg : w.grownBy w' (some (b + 2 + s))) (ho : w'.ownsMap Try.prog 31 RH (b + 2 + s) (Q + 1) d) : TabAt w' (Q + 1) b (upd D s d) E n m := by
  refine ⟨h.tab_grown hg (by omega), fun k hk => ?_, (h.ears.kept hg (by simp; omega)).mono (by omega)⟩
  unfold Ytmphajjaepahkaa.upd
  by_cases e : k = s
  · subst e; simpa using ho
  · simpa [e] using ((h.shards k hk).kept hg (by simp; omega)).mono (by omega)
theorem ownsMap_setCell {w : World} {k : TypeId} {R : Value → Option (DV × List MemPlace)} {b n : Nat} {D : DV} (h : w.ownsMap Try.prog k R b n D) {c i : Nat} (hne : c ≠ b) (v : Value) : (w.setCell ⟨c, i, none⟩ v).ownsMap Try.prog k R b n D := by
  obtain ⟨es, clock, hb, F, hs, hD⟩ := h
  exact ⟨es, clock, (Below.heap_setCell _ _ _ _ (by simpa using hne.symm)).trans hb, F, hs, hD⟩
theorem TabAt.set9 {w : World} {Q b : Nat} {D : Nat → DV} {E : DV} {n m : Int} (h : TabAt w Q b D E n m) (n' : Int) : TabAt (w.setCell ⟨b + 1, 9, none⟩ (.int .i64 n')) Q b D E n' m := by
  refine ⟨?_, fun s hs => ownsMap_setCell (h.shards s hs) (by omega) _, ownsMap_setCell h.ears (by omega) _⟩
  simp only [World.setCell, Array.getElem?_modify, if_true, h.tab]
  simp [tcells]
theorem TabAt.set10 {w : World} {Q b : Nat} {D : Nat → DV} {E : DV} {n m : Int} (h : TabAt w Q b D E n m) (m' : Int) : TabAt (w.setCell ⟨b + 1, 10, none⟩ (.int .i64 m')) Q b D E n m' := by
  refine ⟨?_, fun s hs => ownsMap_setCell (h.shards s hs) (by omega) _, ownsMap_setCell h.ears (by omega) _⟩
  simp only [World.setCell, Array.getElem?_modify, if_true, h.tab]
  simp [tcells]
theorem tcells_map (b : Nat) (n m : Int) (s : Nat) (hs : s < 8) : (tcells b n m)[s]? = some (.map (some (b + 2 + s))) := by
  match s, hs with
  | 0, _ | 1, _ | 2, _ | 3, _ | 4, _ | 5, _ | 6, _ | 7, _ => rfl

theorem keep5 {b b' j : Nat} {v0 v1 v2 v3 v4 : Value} {B : Nat} {W0 w1 w2 : World} (h : (w1.cell? ⟨b, 0, none⟩ = some v0 ∧ w1.cell? ⟨b, 1, none⟩ = some v1 ∧ w1.cell? ⟨b, 2, none⟩ = some v2 ∧ w1.cell? ⟨b, 3, none⟩ = some v3) ∧ w1.cell? ⟨b', j, none⟩ = some v4 ∧ Below B W0 w1)
    (hb : Below w1.heap.size w1 w2) (hB : B ≤ W0.heap.size) : (w2.cell? ⟨b, 0, none⟩ = some v0 ∧ w2.cell? ⟨b, 1, none⟩ = some v1 ∧ w2.cell? ⟨b, 2, none⟩ = some v2 ∧ w2.cell? ⟨b, 3, none⟩ = some v3) ∧ w2.cell? ⟨b', j, none⟩ = some v4 ∧ Below B W0 w2 := by
  obtain ⟨h0, h5, h4⟩ := h
  obtain ⟨h0, h4⟩ := keep4 ⟨h0, h4⟩ hb hB
  exact ⟨h0, (hb.cell (p := ⟨b', j, none⟩) (World.block_lt_of_cell? _ _ h5)).trans h5, h4⟩

def shN (i1 p1 i2 p2 : Int) : Nat := (shardOf i1 p1 i2 p2).toNat
theorem shN_lt (i1 p1 i2 p2 : Int) : shN i1 p1 i2 p2 < 8 := by unfold shN; have := shardOf_bounds i1 p1 i2 p2; omega
theorem shardN (i1 p1 i2 p2 : Int) (a0 : 0 ≤ i1) (a1 : i1 ≤ 4294967295) (b0 : 0 ≤ i2) (b1 : i2 ≤ 4294967295) (c0 : 0 ≤ p1) (c1 : p1 ≤ 65535) (d0 : 0 ≤ p2) (d1 : p2 ≤ 65535) (w : World) :
    Calls Try.prog 16 #[.agg #[.int .u32 i1, .int .u16 p1, .int .u32 i2, .int .u16 p2]] w fun e w' => e = .returned (.int .i64 ((shN i1 p1 i2 p2 : Nat) : Int)) ∧ Below w.heap.size w w' := by
  refine (shard_any i1 p1 i2 p2 a0 a1 b0 b1 c0 c1 d0 d1 w).mono ?_
  rintro e w' ⟨rfl, hb⟩
  have := shardOf_bounds i1 p1 i2 p2
  exact ⟨by rw [show ((shN i1 p1 i2 p2 : Nat) : Int) = shardOf i1 p1 i2 p2 by unfold shN; omega], hb⟩

theorem made_nil (w : World) : Calls Try.prog 15 #[.pointer none] w fun e w' => e = .returned (.bool false) ∧ w = w' := by
  go_enter Try.func15, Try.ntmps15
  go_wp2
  go_ret
  exact ⟨rfl, rfl⟩
theorem made_yes (b : Nat) (m : Nat) (w : World) (h : w.cell? ⟨b, 8, none⟩ = some (.map (some m))) : Calls Try.prog 15 #[.pointer (some ⟨b, 0, none⟩)] w fun e w' => e = .returned (.bool true) ∧ w = w' := by
  have r := fun w => run_neq_map_nil (P := Try.prog) w 43 33 29 (some m) Try.underlying43
  go_enter Try.func15, Try.ntmps15
  go_wp2
  go_ret
  exact ⟨rfl, rfl⟩

set_option maxHeartbeats 1600000 in
set_option maxRecDepth 20000 in
theorem put_new (Q b : Nat) (hQ : Q < 10000) (D : Nat → DV) (E : DV) (n m : Int) (w : World) (hT : TabAt w Q b D E n m) (hn : n < 1024) (hn0 : 0 ≤ n) (sk : Int) (hs0 : 0 < sk)
    (i1 p1 i2 p2 : Int) (a0 : 0 ≤ i1) (a1 : i1 ≤ 4294967295) (b0 : 0 ≤ i2) (b1 : i2 ≤ 4294967295) (c0 : 0 ≤ p1) (c1 : p1 ≤ 65535) (d0 : 0 ≤ p2) (d1 : p2 ≤ 65535)
    (kl : Lit) (hkl : keyOf Try.prog 31 (.agg #[.int .u32 i1, .int .u16 p1, .int .u32 i2, .int .u16 p2]) = some kl) (hno : Maps.has (D (shN i1 p1 i2 p2)) kl = false) :
    Calls Try.prog 5 #[.pointer (some ⟨b + 1, 0, none⟩), .agg #[.int .u32 i1, .int .u16 p1, .int .u32 i2, .int .u16 p2], .int .u64 sk] w fun e w' => e = .returned (.int .i64 0) ∧ TabAt w' (Q + 1) b (upd D (shN i1 p1 i2 p2) ((D (shN i1 p1 i2 p2)).put kl (.held (.agg #[.int .u64 sk, .int .i64 0])))) E (n + 1) m ∧ TF b w w' := by
  have hsl := shN_lt i1 p1 i2 p2
  have hS := shardN i1 p1 i2 p2 a0 a1 b0 b1 c0 c1 d0 d1
  generalize shN i1 p1 i2 p2 = s at *
  have HS := Lib.hid hS
  clear hS
  have hs1 : (s : Int) < 8 := by omega
  have hs2 : (0 : Int) ≤ (s : Int) := by omega
  have hT1 := hT.kept ((Below.refl _ w).alloc (Nat.le_refl _) (.cells #[.int .u32 i1, .int .u16 p1, .int .u32 i2, .int .u16 p2] 31))
  have m8 : (w.alloc (.cells #[.int .u32 i1, .int .u16 p1, .int .u32 i2, .int .u16 p2] 31)).cell? ⟨b + 1, 8, none⟩ = some (.map (some b)) := hT1.cell 8
  have ms := (hT1.cell s).trans (tcells_map b n m s hsl)
  have HT1 := Lib.hid hT1
  clear hT1
  go_enter Try.func5, Try.ntmps5
  go_wp2_with (go_at_call 15; refine (made_yes _ b _ m8).mono ?_; rintro e w' ⟨rfl, rfl⟩)
  go_region_held3 (fun w' => (w'.cell? ⟨w.heap.size, 0, none⟩ = some (.int .u32 i1) ∧ w'.cell? ⟨w.heap.size, 1, none⟩ = some (.int .u16 p1) ∧ w'.cell? ⟨w.heap.size, 2, none⟩ = some (.int .u32 i2) ∧ w'.cell? ⟨w.heap.size, 3, none⟩ = some (.int .u16 p2)) ∧ w'.cell? ⟨b + 1, s, none⟩ = some (.map (some (b + 2 + s))) ∧ Below w.heap.size w w')
    (first | (exact keep5 (by assumption) (by assumption) (Nat.le_refl _)) | (refine ⟨⟨?_, ?_, ?_, ?_⟩, ?_, ?_⟩ <;> first | go_keep | (go_grown; done)))
    (first
      | (go_at_call 16; refine (HS.out _).mono ?_; rintro e w1 ⟨rfl, hB1⟩))
  obtain ⟨⟨c0', c1', c2', c3'⟩, -, hBw⟩ : _ ∧ _ ∧ _ := by assumption
  have hT2 := (HT1.out.kept (Below.refl _ _).drew).kept hB1
  have hz1 := hBw.size
  have HT1' := Lib.hid hT2
  have hbx : w.heap.size < w1.heap.size := World.block_lt_of_cell? _ _ c0'
  have hbz : b + 1 < w1.heap.size := (Array.getElem?_eq_some_iff.1 hT2.tab).1
  have c9 : w1.cell? ⟨b + 1, 9, none⟩ = some (.int .i64 n) := hT2.cell 9
  have hsk : (sk == 0) = false := by simp; omega
  have hB2 := Lib.hid ((hBw.alloc hBw.size (.cells #[.int .u64 0, .int .i64 0] 50)))
  have HT2 := Lib.hid (hT2.kept ((Below.refl _ _).alloc (Nat.le_refl _) (.cells #[.int .u64 0, .int .i64 0] 50)))
  clear hT2 hB1 hBw HT1 hT m8 ms
  go_wp2_with (first
    | (at_lookup; refine look_no rfl _ _ 44 rfl 31 50 law31 Try.underlying44 (zero50 _) (b + 2 + s) Q (D s) rfl ((HT1'.out).shards s hsl) _ kl rfl hkl hno ?_)
    | (at_mapUpdate; refine wpList_mapUpdate_own _ rfl _ _ _ 44 rfl 31 50 law31 Try.underlying44 RH (b + 2 + s) Q (D s) rfl (HT2.out.shards s hsl) (by unfold maxLen; omega) _ _ kl rfl rfl hkl (.held (.agg #[.int .u64 sk, .int .i64 0])) [] rfl ?_; intro w2 hown2 hgrow2; have c9' : w2.cell? ⟨b + 1, 9, none⟩ = some (.int .i64 n) := TabAt.cell_grown HT2.out hgrow2 9; have f9' := TabAt.frozen_grown HT2.out hgrow2 9; clear c9))
  go_ret
  exact ⟨rfl, (HT2.out.upd hsl hgrow2 hown2).set9 _, ((TF.of_below hB2.out).trans (TF.of_grown hgrow2 (by omega) (by omega))).trans (TF.setCell _ (by omega) (by omega))⟩
end Go.Proofs.Ytmphajjaepahkaa
