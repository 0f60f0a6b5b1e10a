/-
  (*Table).Rest of a connection's pair; (*Table).Find of a connection and of a pair that rests. Part of the proof of TableFull. No condition beyond the theorems' own hypotheses.
-/
import Derived.Test.YtmphajjaepahkaaG
import Derived.Deep.DeepCutAuto
import Derived.BigQuiet
import Derived.Deep.QuietTactic
namespace Go.Proofs.Ytmphajjaepahkaa
open Go.RowKit

set_option maxHeartbeats 3200000 in
set_option maxRecDepth 20000 in
theorem rest_conn (Q b : Nat) (hQ : Q < 10000) (D : Nat → DV) (E : DV) (n m : Int) (w : World) (hT : TabAt w Q b D E n m) (hm : m < 1024) (hm0 : 0 ≤ m) (hn : 1 ≤ n) (hn0 : n ≤ 2000) (until_ sk u0 : Int) (hsk : 0 < sk)
    (i1 p1 i2 p2 : Int) (a0 : 0 ≤ i1) (a1 : i1 ≤ 4294967295) (b0 : 0 ≤ i2) (b1 : i2 ≤ 4294967295) (c0 : 0 ≤ p1) (c1 : p1 ≤ 65535) (d0 : 0 ≤ p2) (d1 : p2 ≤ 65535)
    (kl : Lit) (hkl : keyOf Try.prog 31 (.agg #[.int .u32 i1, .int .u16 p1, .int .u32 i2, .int .u16 p2]) = some kl) (hno : ∀ z, (D (shN i1 p1 i2 p2)).atKey kl z = .held (.agg #[.int .u64 sk, .int .i64 u0])) :
    Calls Try.prog 7 #[.pointer (some ⟨b + 1, 0, none⟩), .agg #[.int .u32 i1, .int .u16 p1, .int .u32 i2, .int .u16 p2], .int .i64 until_] w fun e w' => e = .returned (.int .i64 0) ∧ TabAt w' (Q + 1) b (upd D (shN i1 p1 i2 p2) ((D (shN i1 p1 i2 p2)).put kl (.held (.agg #[.int .u64 0, .int .i64 until_])))) E (n - 1) (m + 1) ∧ TF b w w' := by
  have hsl := shN_lt i1 p1 i2 p2
  have hS := shardN i1 p1 i2 p2 a0 a1 b0 b1 c0 c1 d0 d1
  generalize shN i1 p1 i2 p2 = s at *
  have hno := Lib.hid hno
  have hk0 : (sk == 0) = false := by simp; omega
  have HS := Lib.hid hS
  clear hS
  have hs1 : (s : Int) < 8 := by omega
  have hs2 : (0 : Int) ≤ (s : Int) := by omega
  have hT1 := hT.kept ((Below.refl _ w).alloc (Nat.le_refl _) (.cells #[.int .u32 i1, .int .u16 p1, .int .u32 i2, .int .u16 p2] 31))
  have m8 : (w.alloc (.cells #[.int .u32 i1, .int .u16 p1, .int .u32 i2, .int .u16 p2] 31)).cell? ⟨b + 1, 8, none⟩ = some (.map (some b)) := hT1.cell 8
  have ms := (hT1.cell s).trans (tcells_map b n m s hsl)
  have HT1 := Lib.hid hT1
  clear hT1
  go_enter Try.func7, Try.ntmps7
  go_wp2_with (go_at_call 15; refine (made_yes _ b _ m8).mono ?_; rintro e w' ⟨rfl, rfl⟩)
  go_region_held3 (fun w' => (w'.cell? ⟨w.heap.size, 0, none⟩ = some (.int .u32 i1) ∧ w'.cell? ⟨w.heap.size, 1, none⟩ = some (.int .u16 p1) ∧ w'.cell? ⟨w.heap.size, 2, none⟩ = some (.int .u32 i2) ∧ w'.cell? ⟨w.heap.size, 3, none⟩ = some (.int .u16 p2)) ∧ w'.cell? ⟨b + 1, s, none⟩ = some (.map (some (b + 2 + s))) ∧ Below w.heap.size w w')
    (first | (exact keep5 (by assumption) (by assumption) (Nat.le_refl _)) | (refine ⟨⟨?_, ?_, ?_, ?_⟩, ?_, ?_⟩ <;> first | go_keep | (go_grown; done)))
    (first
      | (go_at_call 16; refine (HS.out _).mono ?_; rintro e w1 ⟨rfl, hB1⟩))
  obtain ⟨⟨c0', c1', c2', c3'⟩, -, hBw⟩ : _ ∧ _ ∧ _ := by assumption
  have hT2 := (HT1.out.kept (Below.refl _ _).drew).kept hB1
  have hz1 := hBw.size
  have HT1' := Lib.hid hT2
  have hbx : w.heap.size < w1.heap.size := World.block_lt_of_cell? _ _ c0'
  have hbz : b + 1 < w1.heap.size := (Array.getElem?_eq_some_iff.1 hT2.tab).1
  have c9 : w1.cell? ⟨b + 1, 9, none⟩ = some (.int .i64 n) := hT2.cell 9
  have c10 : w1.cell? ⟨b + 1, 10, none⟩ = some (.int .i64 m) := hT2.cell 10
  have f9 : w1.frozen? ⟨b + 1, 9, none⟩ = false := hT2.frozen 9
  have f10 : w1.frozen? ⟨b + 1, 10, none⟩ = false := hT2.frozen 10
  have HB1 := Lib.hid hBw
  have hB2 := Lib.hid ((hBw.alloc hBw.size (.cells #[.int .u64 sk, .int .i64 u0] 50)))
  have HT2 := Lib.hid (hT2.kept ((Below.refl _ _).alloc (Nat.le_refl _) (.cells #[.int .u64 sk, .int .i64 u0] 50)))
  clear hT2 hB1 hBw HT1 hT m8 ms
  have HT3 := Lib.hid (((HT1'.out.set9 (n - 1)).set10 (m + 1)).kept ((Below.refl _ _).alloc (Nat.le_refl _) (.cells #[.int .u64 sk, .int .i64 u0] 50)))
  have hF3 := Lib.hid ((((TF.of_below (b := b) (HB1.out)).trans (TF.setCell (b := b) (k := b + 1) (o := 9) (.int .i64 (n - 1)) (by omega) (by omega))).trans (TF.setCell (b := b) (k := b + 1) (o := 10) (.int .i64 (m + 1)) (by omega) (by omega))).trans (TF.of_below ((Below.refl _ _).alloc (Nat.le_refl _) (.cells #[.int .u64 sk, .int .i64 u0] 50))))
  go_wp2_with (first
    | (at_lookup; refine look_yes rfl _ _ 44 rfl 31 50 law31 Try.underlying44 (zero50 _) (b + 2 + s) Q (D s) rfl ((HT1'.out).shards s hsl) _ kl rfl hkl (.agg #[.int .u64 sk, .int .i64 u0]) hno.out ?_)
    | (at_mapUpdate; refine wpList_mapUpdate_own _ rfl _ _ _ 44 rfl 31 50 law31 Try.underlying44 RH (b + 2 + s) Q (D s) rfl (HT3.out.shards s hsl) (by unfold maxLen; omega) _ _ kl rfl rfl hkl (.held (.agg #[.int .u64 0, .int .i64 until_])) [] rfl ?_; intro w2 hown2 hgrow2))
  go_ret
  exact ⟨rfl, HT3.out.upd hsl hgrow2 hown2, hF3.out.trans (TF.of_grown hgrow2 (by omega) (by omega))⟩

/-- What a look-up in a map that reads as D answers. -/
def Looks (D : DV) (key : Value) (v0 : Value) (ok : Bool) : Prop :=
  ∀ (w : World) (b n : Nat), w.ownsMap Try.prog 31 RH b n D → (Instr.lookup 44 (.map (some b)) key true).run Try.prog w = .ok (.tuple #[v0, .bool ok]) w
theorem looks_yes {D : DV} {key : Value} {kl : Lit} (hkey : keyOf Try.prog 31 key = some kl) {v0 : Value} (hyes : ∀ z, D.atKey kl z = .held v0) : Looks D key v0 true := by
  intro w b n hown
  obtain ⟨v, ps, h1, h2⟩ := hown.look_ok law31 Try.underlying44 (zero50 w) (zd := .held (.agg #[.int .u64 0, .int .i64 0])) (zp := []) rfl hkey
  rw [hyes] at h2
  simp [RH] at h2
  rw [h1, Maps.has_true_of_atKey hyes, h2.1]
theorem looks_no {D : DV} {key : Value} {kl : Lit} (hkey : keyOf Try.prog 31 key = some kl) (hno : Maps.has D kl = false) : Looks D key (.agg #[.int .u64 0, .int .i64 0]) false := by
  intro w b n hown
  obtain ⟨v, ps, h1, h2⟩ := hown.look_ok law31 Try.underlying44 (zero50 w) (zd := .held (.agg #[.int .u64 0, .int .i64 0])) (zp := []) rfl hkey
  rw [Maps.atKey_of_not_has hno] at h2
  simp [RH] at h2
  rw [h1, hno, h2.1]

section
variable {bb : Nat} {v0 v1 v2 v3 v4 : Value} {W0 w1 w2 : World} {Q b B s : Nat} {D : Nat → DV} {E : DV} {n m : Int} {key vv : Value} {ok : Bool}
theorem keep6 (hsl : s < 8) (hlk : Looks (D s) key vv ok) (h : (w1.cell? ⟨bb, 0, none⟩ = some v0 ∧ w1.cell? ⟨bb, 1, none⟩ = some v1 ∧ w1.cell? ⟨bb, 2, none⟩ = some v2 ∧ w1.cell? ⟨bb, 3, none⟩ = some v3) ∧ w1.cell? ⟨b + 1, s, none⟩ = some v4 ∧ (Instr.lookup 44 (.map (some (b + 2 + s))) key true).run Try.prog w1 = .ok (.tuple #[vv, .bool ok]) w1 ∧ TabAt w1 Q b D E n m ∧ Below B W0 w1)
    (hb : Below w1.heap.size w1 w2) (hB : B ≤ W0.heap.size) : (w2.cell? ⟨bb, 0, none⟩ = some v0 ∧ w2.cell? ⟨bb, 1, none⟩ = some v1 ∧ w2.cell? ⟨bb, 2, none⟩ = some v2 ∧ w2.cell? ⟨bb, 3, none⟩ = some v3) ∧ w2.cell? ⟨b + 1, s, none⟩ = some v4 ∧ (Instr.lookup 44 (.map (some (b + 2 + s))) key true).run Try.prog w2 = .ok (.tuple #[vv, .bool ok]) w2 ∧ TabAt w2 Q b D E n m ∧ Below B W0 w2 := by
  obtain ⟨h0, h1, h2, h3, h4⟩ := h
  obtain ⟨k0, k1, k4⟩ := keep5 ⟨h0, h1, h4⟩ hb hB
  have hT := h3.kept hb
  exact ⟨k0, k1, hlk _ _ _ (hT.shards s hsl), hT, k4⟩
theorem keep6a (hsl : s < 8) (hlk : Looks (D s) key vv ok) {o : Obj} (h : (w1.cell? ⟨bb, 0, none⟩ = some v0 ∧ w1.cell? ⟨bb, 1, none⟩ = some v1 ∧ w1.cell? ⟨bb, 2, none⟩ = some v2 ∧ w1.cell? ⟨bb, 3, none⟩ = some v3) ∧ w1.cell? ⟨b + 1, s, none⟩ = some v4 ∧ (Instr.lookup 44 (.map (some (b + 2 + s))) key true).run Try.prog w1 = .ok (.tuple #[vv, .bool ok]) w1 ∧ TabAt w1 Q b D E n m ∧ Below B W0 w1)
    (hB : B ≤ W0.heap.size) : ((w1.alloc o).cell? ⟨bb, 0, none⟩ = some v0 ∧ (w1.alloc o).cell? ⟨bb, 1, none⟩ = some v1 ∧ (w1.alloc o).cell? ⟨bb, 2, none⟩ = some v2 ∧ (w1.alloc o).cell? ⟨bb, 3, none⟩ = some v3) ∧ (w1.alloc o).cell? ⟨b + 1, s, none⟩ = some v4 ∧ (Instr.lookup 44 (.map (some (b + 2 + s))) key true).run Try.prog (w1.alloc o) = .ok (.tuple #[vv, .bool ok]) (w1.alloc o) ∧ TabAt (w1.alloc o) Q b D E n m ∧ Below B W0 (w1.alloc o) :=
  keep6 hsl hlk h ((Below.refl _ _).alloc (Nat.le_refl _) _) hB
theorem TabAt.setCell_far {w : World} {Q b : Nat} {D : Nat → DV} {E : DV} {n m : Int} (h : TabAt w Q b D E n m) {g i : Nat} (hg : b + 10 ≤ g) (v : Value) : TabAt (w.setCell ⟨g, i, none⟩ v) Q b D E n m :=
  ⟨(Below.heap_setCell _ _ _ _ (by simp; omega)).trans h.tab, fun k hk => ownsMap_setCell (h.shards k hk) (by omega) _, ownsMap_setCell h.ears (by omega) _⟩
theorem keep6s {w w1 : World} {x y : Value} (hsl : s < 8) (hlk : Looks (D s) key vv ok) (hbz : b + 9 < w.heap.size) (h : (w1.cell? ⟨w.heap.size, 0, none⟩ = some v0 ∧ w1.cell? ⟨w.heap.size, 1, none⟩ = some v1 ∧ w1.cell? ⟨w.heap.size, 2, none⟩ = some v2 ∧ w1.cell? ⟨w.heap.size, 3, none⟩ = some v3) ∧ w1.cell? ⟨b + 1, s, none⟩ = some v4 ∧ (Instr.lookup 44 (.map (some (b + 2 + s))) key true).run Try.prog w1 = .ok (.tuple #[vv, .bool ok]) w1 ∧ TabAt w1 Q b D E n m ∧ Below w.heap.size w w1) :
    (((w1.setCell ⟨w.heap.size + 1, 0, none⟩ x).setCell ⟨w.heap.size + 1, 1, none⟩ y).cell? ⟨w.heap.size, 0, none⟩ = some v0 ∧ ((w1.setCell ⟨w.heap.size + 1, 0, none⟩ x).setCell ⟨w.heap.size + 1, 1, none⟩ y).cell? ⟨w.heap.size, 1, none⟩ = some v1 ∧ ((w1.setCell ⟨w.heap.size + 1, 0, none⟩ x).setCell ⟨w.heap.size + 1, 1, none⟩ y).cell? ⟨w.heap.size, 2, none⟩ = some v2 ∧ ((w1.setCell ⟨w.heap.size + 1, 0, none⟩ x).setCell ⟨w.heap.size + 1, 1, none⟩ y).cell? ⟨w.heap.size, 3, none⟩ = some v3) ∧ ((w1.setCell ⟨w.heap.size + 1, 0, none⟩ x).setCell ⟨w.heap.size + 1, 1, none⟩ y).cell? ⟨b + 1, s, none⟩ = some v4 ∧ (Instr.lookup 44 (.map (some (b + 2 + s))) key true).run Try.prog ((w1.setCell ⟨w.heap.size + 1, 0, none⟩ x).setCell ⟨w.heap.size + 1, 1, none⟩ y) = .ok (.tuple #[vv, .bool ok]) ((w1.setCell ⟨w.heap.size + 1, 0, none⟩ x).setCell ⟨w.heap.size + 1, 1, none⟩ y) ∧ TabAt ((w1.setCell ⟨w.heap.size + 1, 0, none⟩ x).setCell ⟨w.heap.size + 1, 1, none⟩ y) Q b D E n m ∧ Below w.heap.size w ((w1.setCell ⟨w.heap.size + 1, 0, none⟩ x).setCell ⟨w.heap.size + 1, 1, none⟩ y) := by
  obtain ⟨⟨h0, h1, h2, h3⟩, h4, h5, h6, h7⟩ := h
  have hT := (h6.setCell_far (g := w.heap.size + 1) (i := 0) (by omega) x).setCell_far (g := w.heap.size + 1) (i := 1) (by omega) y
  have e : ∀ i j, (⟨w.heap.size + 1, i, none⟩ : Addr) ≠ ⟨w.heap.size, j, none⟩ := fun i j h => by injection h; omega
  have e' : ∀ i j, (⟨w.heap.size + 1, i, none⟩ : Addr) ≠ ⟨b + 1, j, none⟩ := fun i j h => by injection h; omega
  refine ⟨⟨?_, ?_, ?_, ?_⟩, ?_, hlk _ _ _ (hT.shards s hsl), hT, (h7.setCell (by simp) _).setCell (by simp) _⟩
  all_goals (rw [World.cell?_setCell_other _ _ _ _ (by first | exact e _ _ | exact e' _ _), World.cell?_setCell_other _ _ _ _ (by first | exact e _ _ | exact e' _ _)]; first | exact h0 | exact h1 | exact h2 | exact h3 | exact h4)
theorem new6 {w w1 : World} {v0 v1 v2 v3 u0 u1 : Value} (hB : Below (((w.alloc (.cells #[v0, v1, v2, v3] 31)).drew).alloc (.cells #[u0, u1] 50)).heap.size (((w.alloc (.cells #[v0, v1, v2, v3] 31)).drew).alloc (.cells #[u0, u1] 50)) w1) :
    w1.cell? ⟨w.heap.size + 1, 0, none⟩ = some u0 ∧ w1.cell? ⟨w.heap.size + 1, 1, none⟩ = some u1 ∧ w1.frozen? ⟨w.heap.size + 1, 0, none⟩ = false ∧ w1.frozen? ⟨w.heap.size + 1, 1, none⟩ = false := by
  refine ⟨(hB.cell (p := ⟨w.heap.size + 1, 0, none⟩) (by simp)).trans ?_, (hB.cell (p := ⟨w.heap.size + 1, 1, none⟩) (by simp)).trans ?_, (hB.frozen (p := ⟨w.heap.size + 1, 0, none⟩) (by simp)).trans ?_, (hB.frozen (p := ⟨w.heap.size + 1, 1, none⟩) (by simp)).trans ?_⟩ <;> simp [go_sem]
theorem start6 {w : World} {i1 p1 i2 p2 : Value} {key : Value} (hsl : s < 8) (hlk : Looks (D s) key vv ok) (hT : TabAt (w.alloc (.cells #[i1, p1, i2, p2] 31)) Q b D E n m) :
    ((w.alloc (.cells #[i1, p1, i2, p2] 31)).drew.cell? ⟨w.heap.size, 0, none⟩ = some i1 ∧ (w.alloc (.cells #[i1, p1, i2, p2] 31)).drew.cell? ⟨w.heap.size, 1, none⟩ = some p1 ∧ (w.alloc (.cells #[i1, p1, i2, p2] 31)).drew.cell? ⟨w.heap.size, 2, none⟩ = some i2 ∧ (w.alloc (.cells #[i1, p1, i2, p2] 31)).drew.cell? ⟨w.heap.size, 3, none⟩ = some p2) ∧ (w.alloc (.cells #[i1, p1, i2, p2] 31)).drew.cell? ⟨b + 1, s, none⟩ = some (.map (some (b + 2 + s))) ∧ (Instr.lookup 44 (.map (some (b + 2 + s))) key true).run Try.prog (w.alloc (.cells #[i1, p1, i2, p2] 31)).drew = .ok (.tuple #[vv, .bool ok]) (w.alloc (.cells #[i1, p1, i2, p2] 31)).drew ∧ TabAt (w.alloc (.cells #[i1, p1, i2, p2] 31)).drew Q b D E n m ∧ Below w.heap.size w (w.alloc (.cells #[i1, p1, i2, p2] 31)).drew := by
  have hT2 := hT.kept (Below.refl _ _).drew
  exact ⟨⟨by simp, by simp, by simp, by simp⟩, (hT2.cell s).trans (tcells_map b n m s hsl), hlk _ _ _ (hT2.shards s hsl), hT2, ((Below.refl _ w).alloc (Nat.le_refl _) _).drew⟩
end
theorem setCell2_0 {w1 : World} {g : Nat} {a x y : Value} (h0 : w1.cell? ⟨g, 0, none⟩ = some a) : ((w1.setCell ⟨g, 0, none⟩ x).setCell ⟨g, 1, none⟩ y).cell? ⟨g, 0, none⟩ = some x := by
  rw [World.cell?_setCell_other _ _ _ _ (fun h => by injection h; omega)]
  exact World.cell?_setCell_same _ _ _ h0
theorem setCell2_1 {w1 : World} {g : Nat} {a x y : Value} (h0 : w1.cell? ⟨g, 1, none⟩ = some a) : ((w1.setCell ⟨g, 0, none⟩ x).setCell ⟨g, 1, none⟩ y).cell? ⟨g, 1, none⟩ = some y := by
  refine World.cell?_setCell_same (u := a) _ _ _ ?_
  rw [World.cell?_setCell_other _ _ _ _ (fun h => by injection h; omega)]
  exact h0
set_option maxHeartbeats 6400000 in
set_option maxRecDepth 20000 in
theorem find_any (Q b : Nat) (D : Nat → DV) (E : DV) (n m : Int) (w : World) (hT : TabAt w Q b D E n m)
    (i1 p1 i2 p2 : Int) (a0 : 0 ≤ i1) (a1 : i1 ≤ 4294967295) (b0 : 0 ≤ i2) (b1 : i2 ≤ 4294967295) (c0 : 0 ≤ p1) (c1 : p1 ≤ 65535) (d0 : 0 ≤ p2) (d1 : p2 ≤ 65535)
    (ok : Bool) (sk u0 : Int) (hlk : Looks (D (shN i1 p1 i2 p2)) (.agg #[.int .u32 i1, .int .u16 p1, .int .u32 i2, .int .u16 p2]) (.agg #[.int .u64 sk, .int .i64 u0]) ok) (hash now r1 r2 : Int)
    (hcase : (ok = true ∧ 0 < sk ∧ r1 = 1 ∧ r2 = sk) ∨ (ok = true ∧ sk = 0 ∧ now < u0 ∧ r1 = 3 ∧ r2 = 0)) :
    Calls Try.prog 11 #[.pointer (some ⟨b + 1, 0, none⟩), .agg #[.int .u32 i1, .int .u16 p1, .int .u32 i2, .int .u16 p2], .int .u32 hash, .int .i64 now] w fun e w' => e = .returned (.tuple #[.int .u8 r1, .int .u64 r2]) ∧ TabAt w' Q b D E n m ∧ Below w.heap.size w w' := by
  have hsl := shN_lt i1 p1 i2 p2
  have hS := shardN i1 p1 i2 p2 a0 a1 b0 b1 c0 c1 d0 d1
  generalize shN i1 p1 i2 p2 = s at *
  have HS := Lib.hid hS
  clear hS
  have hs1 : (s : Int) < 8 := by omega
  have hs2 : (0 : Int) ≤ (s : Int) := by omega
  have hT1 := hT.kept ((Below.refl _ w).alloc (Nat.le_refl _) (.cells #[.int .u32 i1, .int .u16 p1, .int .u32 i2, .int .u16 p2] 31))
  have m8 : (w.alloc (.cells #[.int .u32 i1, .int .u16 p1, .int .u32 i2, .int .u16 p2] 31)).cell? ⟨b + 1, 8, none⟩ = some (.map (some b)) := hT1.cell 8
  have HT1 := Lib.hid hT1
  clear hT1 
  have hcase := hcase
  have hbz : b + 9 < w.heap.size := (hT.shards 7 (by omega)).lt
  go_enter Try.func11, Try.ntmps11
  go_wp2_with (go_at_call 15; refine (made_yes _ b _ m8).mono ?_; rintro e w' ⟨rfl, rfl⟩)
  go_upto_region 3 with fail
  go_cut [10, 11] (fun s10 s11 wx => (∃ g : Nat, s10 = .pointer (some ⟨g, 0, none⟩) ∧ s11 = .bool ok ∧ wx.cell? ⟨g, 0, none⟩ = some (.int .u64 sk) ∧ wx.cell? ⟨g, 1, none⟩ = some (.int .i64 u0)) ∧ (wx.cell? ⟨w.heap.size, 0, none⟩ = some (.int .u32 i1) ∧ wx.cell? ⟨w.heap.size, 1, none⟩ = some (.int .u16 p1) ∧ wx.cell? ⟨w.heap.size, 2, none⟩ = some (.int .u32 i2) ∧ wx.cell? ⟨w.heap.size, 3, none⟩ = some (.int .u16 p2)) ∧ TabAt wx Q b D E n m ∧ Below w.heap.size w wx)
  case first =>
    go_region_held3 (fun w' => (w'.cell? ⟨w.heap.size, 0, none⟩ = some (.int .u32 i1) ∧ w'.cell? ⟨w.heap.size, 1, none⟩ = some (.int .u16 p1) ∧ w'.cell? ⟨w.heap.size, 2, none⟩ = some (.int .u32 i2) ∧ w'.cell? ⟨w.heap.size, 3, none⟩ = some (.int .u16 p2)) ∧ w'.cell? ⟨b + 1, s, none⟩ = some (.map (some (b + 2 + s))) ∧ (Instr.lookup 44 (.map (some (b + 2 + s))) (.agg #[.int .u32 i1, .int .u16 p1, .int .u32 i2, .int .u16 p2]) true).run Try.prog w' = .ok (.tuple #[.agg #[.int .u64 sk, .int .i64 u0], .bool ok]) w' ∧ TabAt w' Q b D E n m ∧ Below w.heap.size w w')
      (first | assumption | (exact keep6 hsl hlk (by assumption) (by assumption) (Nat.le_refl _)) | (exact keep6a hsl hlk (by assumption) (Nat.le_refl _)) | (exact keep6s hsl hlk hbz (by assumption)) | (exact start6 hsl hlk HT1.out) | (exact keep6a hsl hlk (keep6 hsl hlk (start6 hsl hlk HT1.out) (by assumption) (Nat.le_refl _)) (Nat.le_refl _)))
      (first
        | (go_at_call 16; refine (HS.out _).mono ?_; rintro e w1 ⟨rfl, hB1⟩; try have q := new6 hB1))
    all_goals (go_wp2_with fail; go_meet)
    all_goals (obtain ⟨z0, -, -, z3, z4⟩ : _ ∧ _ ∧ _ ∧ _ ∧ _ := by assumption)
    all_goals refine ⟨⟨_, rfl, rfl, ?_, ?_⟩, z0, z3, z4⟩
    all_goals first | (simp; done) | exact setCell2_0 q.1 | exact setCell2_1 q.2.1
  case rest =>
    obtain ⟨⟨g, rfl, rfl, g0, g1⟩, -, hT2, hB2⟩ := hcut
    have HT2 := Lib.hid hT2
    have HB2 := Lib.hid hB2
    clear hT2 hB2 hlk m8
    rcases hcase with ⟨rfl, k1, rfl, rfl⟩ | ⟨rfl, rfl, k1, rfl, rfl⟩
    · go_wp2
      go_quiet (fail)
      go_wp2
      go_ret2
      exact ⟨rfl, HT2.out.kept (below_drewN (Below.refl _ _) _), below_drewN HB2.out _⟩
    · go_wp2
      go_ret2
      exact ⟨rfl, HT2.out, HB2.out⟩


end Go.Proofs.Ytmphajjaepahkaa
