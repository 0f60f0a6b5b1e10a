/-
  (*Table).Put at a full table; (*Table).Rest of a new pair. Part of the proof of TableFull. No condition beyond the theorems' own hypotheses.
-/
import Derived.Test.YtmphajjaepahkaaF
namespace Go.Proofs.Ytmphajjaepahkaa
open Go.RowKit

set_option maxHeartbeats 3200000 in
set_option maxRecDepth 20000 in
theorem put_full (Q b : Nat) (hQ : Q < 10000) (D : Nat → DV) (E : DV) (n m : Int) (w : World) (hT : TabAt w Q b D E n m) (hn : 1024 ≤ n) (hn0 : n ≤ 2000) (sk : Int) (hs0 : 0 < sk)
    (i1 p1 i2 p2 : Int) (a0 : 0 ≤ i1) (a1 : i1 ≤ 4294967295) (b0 : 0 ≤ i2) (b1 : i2 ≤ 4294967295) (c0 : 0 ≤ p1) (c1 : p1 ≤ 65535) (d0 : 0 ≤ p2) (d1 : p2 ≤ 65535)
    (kl : Lit) (hkl : keyOf Try.prog 31 (.agg #[.int .u32 i1, .int .u16 p1, .int .u32 i2, .int .u16 p2]) = some kl) (hno : Maps.has (D (shN i1 p1 i2 p2)) kl = false) :
    Calls Try.prog 5 #[.pointer (some ⟨b + 1, 0, none⟩), .agg #[.int .u32 i1, .int .u16 p1, .int .u32 i2, .int .u16 p2], .int .u64 sk] w fun e w' => e = .returned (.int .i64 6) ∧ TabAt w' Q b D E n m ∧ TF b w w' := by
  have hsl := shN_lt i1 p1 i2 p2
  have hS := shardN i1 p1 i2 p2 a0 a1 b0 b1 c0 c1 d0 d1
  generalize shN i1 p1 i2 p2 = s at *
  have HS := Lib.hid hS
  clear hS
  have hs1 : (s : Int) < 8 := by omega
  have hs2 : (0 : Int) ≤ (s : Int) := by omega
  have hT1 := hT.kept ((Below.refl _ w).alloc (Nat.le_refl _) (.cells #[.int .u32 i1, .int .u16 p1, .int .u32 i2, .int .u16 p2] 31))
  have m8 : (w.alloc (.cells #[.int .u32 i1, .int .u16 p1, .int .u32 i2, .int .u16 p2] 31)).cell? ⟨b + 1, 8, none⟩ = some (.map (some b)) := hT1.cell 8
  have ms := (hT1.cell s).trans (tcells_map b n m s hsl)
  have HT1 := Lib.hid hT1
  clear hT1
  go_enter Try.func5, Try.ntmps5
  go_wp2_with (go_at_call 15; refine (made_yes _ b _ m8).mono ?_; rintro e w' ⟨rfl, rfl⟩)
  go_region_held3 (fun w' => (w'.cell? ⟨w.heap.size, 0, none⟩ = some (.int .u32 i1) ∧ w'.cell? ⟨w.heap.size, 1, none⟩ = some (.int .u16 p1) ∧ w'.cell? ⟨w.heap.size, 2, none⟩ = some (.int .u32 i2) ∧ w'.cell? ⟨w.heap.size, 3, none⟩ = some (.int .u16 p2)) ∧ w'.cell? ⟨b + 1, s, none⟩ = some (.map (some (b + 2 + s))) ∧ Below w.heap.size w w')
    (first | (exact keep5 (by assumption) (by assumption) (Nat.le_refl _)) | (refine ⟨⟨?_, ?_, ?_, ?_⟩, ?_, ?_⟩ <;> first | go_keep | (go_grown; done)))
    (first
      | (go_at_call 16; refine (HS.out _).mono ?_; rintro e w1 ⟨rfl, hB1⟩))
  obtain ⟨⟨c0', c1', c2', c3'⟩, -, hBw⟩ : _ ∧ _ ∧ _ := by assumption
  have hT2 := (HT1.out.kept (Below.refl _ _).drew).kept hB1
  have hz1 := hBw.size
  have HT1' := Lib.hid hT2
  have hbx : w.heap.size < w1.heap.size := World.block_lt_of_cell? _ _ c0'
  have hbz : b + 1 < w1.heap.size := (Array.getElem?_eq_some_iff.1 hT2.tab).1
  have c9 : w1.cell? ⟨b + 1, 9, none⟩ = some (.int .i64 n) := hT2.cell 9
  have c10 : w1.cell? ⟨b + 1, 10, none⟩ = some (.int .i64 m) := hT2.cell 10
  have f9 : w1.frozen? ⟨b + 1, 9, none⟩ = false := hT2.frozen 9
  have f10 : w1.frozen? ⟨b + 1, 10, none⟩ = false := hT2.frozen 10
  have HB1 := Lib.hid hBw
  have hB2 := Lib.hid ((hBw.alloc hBw.size (.cells #[.int .u64 0, .int .i64 0] 50)))
  have HT2 := Lib.hid (hT2.kept ((Below.refl _ _).alloc (Nat.le_refl _) (.cells #[.int .u64 0, .int .i64 0] 50)))
  clear hT2 hB1 hBw HT1 hT m8 ms
  have hsk : (sk == 0) = false := by simp; omega
  go_wp2_with (first
    | (at_lookup; refine look_no rfl _ _ 44 rfl 31 50 law31 Try.underlying44 (zero50 _) (b + 2 + s) Q (D s) rfl ((HT1'.out).shards s hsl) _ kl rfl hkl hno ?_))
  go_ret
  exact ⟨rfl, HT2.out, TF.of_below hB2.out⟩

set_option maxHeartbeats 3200000 in
set_option maxRecDepth 20000 in
theorem rest_new (Q b : Nat) (hQ : Q < 10000) (D : Nat → DV) (E : DV) (n m : Int) (w : World) (hT : TabAt w Q b D E n m) (hm : m < 1024) (hm0 : 0 ≤ m) (until_ : Int)
    (i1 p1 i2 p2 : Int) (a0 : 0 ≤ i1) (a1 : i1 ≤ 4294967295) (b0 : 0 ≤ i2) (b1 : i2 ≤ 4294967295) (c0 : 0 ≤ p1) (c1 : p1 ≤ 65535) (d0 : 0 ≤ p2) (d1 : p2 ≤ 65535)
    (kl : Lit) (hkl : keyOf Try.prog 31 (.agg #[.int .u32 i1, .int .u16 p1, .int .u32 i2, .int .u16 p2]) = some kl) (hno : Maps.has (D (shN i1 p1 i2 p2)) kl = false) :
    Calls Try.prog 7 #[.pointer (some ⟨b + 1, 0, none⟩), .agg #[.int .u32 i1, .int .u16 p1, .int .u32 i2, .int .u16 p2], .int .i64 until_] w fun e w' => e = .returned (.int .i64 0) ∧ TabAt w' (Q + 1) b (upd D (shN i1 p1 i2 p2) ((D (shN i1 p1 i2 p2)).put kl (.held (.agg #[.int .u64 0, .int .i64 until_])))) E n (m + 1) ∧ TF b w w' := by
  have hsl := shN_lt i1 p1 i2 p2
  have hS := shardN i1 p1 i2 p2 a0 a1 b0 b1 c0 c1 d0 d1
  generalize shN i1 p1 i2 p2 = s at *
  have HS := Lib.hid hS
  clear hS
  have hs1 : (s : Int) < 8 := by omega
  have hs2 : (0 : Int) ≤ (s : Int) := by omega
  have hT1 := hT.kept ((Below.refl _ w).alloc (Nat.le_refl _) (.cells #[.int .u32 i1, .int .u16 p1, .int .u32 i2, .int .u16 p2] 31))
  have m8 : (w.alloc (.cells #[.int .u32 i1, .int .u16 p1, .int .u32 i2, .int .u16 p2] 31)).cell? ⟨b + 1, 8, none⟩ = some (.map (some b)) := hT1.cell 8
  have ms := (hT1.cell s).trans (tcells_map b n m s hsl)
  have HT1 := Lib.hid hT1
  clear hT1
  go_enter Try.func7, Try.ntmps7
  go_wp2_with (go_at_call 15; refine (made_yes _ b _ m8).mono ?_; rintro e w' ⟨rfl, rfl⟩)
  go_region_held3 (fun w' => (w'.cell? ⟨w.heap.size, 0, none⟩ = some (.int .u32 i1) ∧ w'.cell? ⟨w.heap.size, 1, none⟩ = some (.int .u16 p1) ∧ w'.cell? ⟨w.heap.size, 2, none⟩ = some (.int .u32 i2) ∧ w'.cell? ⟨w.heap.size, 3, none⟩ = some (.int .u16 p2)) ∧ w'.cell? ⟨b + 1, s, none⟩ = some (.map (some (b + 2 + s))) ∧ Below w.heap.size w w')
    (first | (exact keep5 (by assumption) (by assumption) (Nat.le_refl _)) | (refine ⟨⟨?_, ?_, ?_, ?_⟩, ?_, ?_⟩ <;> first | go_keep | (go_grown; done)))
    (first
      | (go_at_call 16; refine (HS.out _).mono ?_; rintro e w1 ⟨rfl, hB1⟩))
  obtain ⟨⟨c0', c1', c2', c3'⟩, -, hBw⟩ : _ ∧ _ ∧ _ := by assumption
  have hT2 := (HT1.out.kept (Below.refl _ _).drew).kept hB1
  have hz1 := hBw.size
  have HT1' := Lib.hid hT2
  have hbx : w.heap.size < w1.heap.size := World.block_lt_of_cell? _ _ c0'
  have hbz : b + 1 < w1.heap.size := (Array.getElem?_eq_some_iff.1 hT2.tab).1
  have c9 : w1.cell? ⟨b + 1, 9, none⟩ = some (.int .i64 n) := hT2.cell 9
  have c10 : w1.cell? ⟨b + 1, 10, none⟩ = some (.int .i64 m) := hT2.cell 10
  have f9 : w1.frozen? ⟨b + 1, 9, none⟩ = false := hT2.frozen 9
  have f10 : w1.frozen? ⟨b + 1, 10, none⟩ = false := hT2.frozen 10
  have HB1 := Lib.hid hBw
  have hB2 := Lib.hid ((hBw.alloc hBw.size (.cells #[.int .u64 0, .int .i64 0] 50)))
  have HT2 := Lib.hid (hT2.kept ((Below.refl _ _).alloc (Nat.le_refl _) (.cells #[.int .u64 0, .int .i64 0] 50)))
  clear hT2 hB1 hBw HT1 hT m8 ms
  have HT3 := Lib.hid ((HT1'.out.set10 (m + 1)).kept ((Below.refl _ _).alloc (Nat.le_refl _) (.cells #[.int .u64 0, .int .i64 0] 50)))
  have hF3 := Lib.hid (((TF.of_below (b := b) (HB1.out)).trans (TF.setCell (b := b) (k := b + 1) (o := 10) (.int .i64 (m + 1)) (by omega) (by omega))).trans (TF.of_below ((Below.refl _ _).alloc (Nat.le_refl _) (.cells #[.int .u64 0, .int .i64 0] 50))))
  go_wp2_with (first
    | (at_lookup; refine look_no rfl _ _ 44 rfl 31 50 law31 Try.underlying44 (zero50 _) (b + 2 + s) Q (D s) rfl ((HT1'.out).shards s hsl) _ kl rfl hkl hno ?_)
    | (at_mapUpdate; refine wpList_mapUpdate_own _ rfl _ _ _ 44 rfl 31 50 law31 Try.underlying44 RH (b + 2 + s) Q (D s) rfl (HT3.out.shards s hsl) (by unfold maxLen; omega) _ _ kl rfl rfl hkl (.held (.agg #[.int .u64 0, .int .i64 until_])) [] rfl ?_; intro w2 hown2 hgrow2))
  go_ret
  exact ⟨rfl, HT3.out.upd hsl hgrow2 hown2, hF3.out.trans (TF.of_grown hgrow2 (by omega) (by omega))⟩

set_option maxHeartbeats 3200000 in
set_option maxRecDepth 20000 in
theorem rest_full (Q b : Nat) (hQ : Q < 10000) (D : Nat → DV) (E : DV) (n m : Int) (w : World) (hT : TabAt w Q b D E n m) (hm : 1024 ≤ m) (hm0 : m ≤ 2000) (until_ : Int)
    (i1 p1 i2 p2 : Int) (a0 : 0 ≤ i1) (a1 : i1 ≤ 4294967295) (b0 : 0 ≤ i2) (b1 : i2 ≤ 4294967295) (c0 : 0 ≤ p1) (c1 : p1 ≤ 65535) (d0 : 0 ≤ p2) (d1 : p2 ≤ 65535)
    (kl : Lit) (hkl : keyOf Try.prog 31 (.agg #[.int .u32 i1, .int .u16 p1, .int .u32 i2, .int .u16 p2]) = some kl) (hno : Maps.has (D (shN i1 p1 i2 p2)) kl = false) :
    Calls Try.prog 7 #[.pointer (some ⟨b + 1, 0, none⟩), .agg #[.int .u32 i1, .int .u16 p1, .int .u32 i2, .int .u16 p2], .int .i64 until_] w fun e w' => e = .returned (.int .i64 6) ∧ TabAt w' Q b D E n m ∧ TF b w w' := by
  have hsl := shN_lt i1 p1 i2 p2
  have hS := shardN i1 p1 i2 p2 a0 a1 b0 b1 c0 c1 d0 d1
  generalize shN i1 p1 i2 p2 = s at *
  have HS := Lib.hid hS
  clear hS
  have hs1 : (s : Int) < 8 := by omega
  have hs2 : (0 : Int) ≤ (s : Int) := by omega
  have hT1 := hT.kept ((Below.refl _ w).alloc (Nat.le_refl _) (.cells #[.int .u32 i1, .int .u16 p1, .int .u32 i2, .int .u16 p2] 31))
  have m8 : (w.alloc (.cells #[.int .u32 i1, .int .u16 p1, .int .u32 i2, .int .u16 p2] 31)).cell? ⟨b + 1, 8, none⟩ = some (.map (some b)) := hT1.cell 8
  have ms := (hT1.cell s).trans (tcells_map b n m s hsl)
  have HT1 := Lib.hid hT1
  clear hT1
  go_enter Try.func7, Try.ntmps7
  go_wp2_with (go_at_call 15; refine (made_yes _ b _ m8).mono ?_; rintro e w' ⟨rfl, rfl⟩)
  go_region_held3 (fun w' => (w'.cell? ⟨w.heap.size, 0, none⟩ = some (.int .u32 i1) ∧ w'.cell? ⟨w.heap.size, 1, none⟩ = some (.int .u16 p1) ∧ w'.cell? ⟨w.heap.size, 2, none⟩ = some (.int .u32 i2) ∧ w'.cell? ⟨w.heap.size, 3, none⟩ = some (.int .u16 p2)) ∧ w'.cell? ⟨b + 1, s, none⟩ = some (.map (some (b + 2 + s))) ∧ Below w.heap.size w w')
    (first | (exact keep5 (by assumption) (by assumption) (Nat.le_refl _)) | (refine ⟨⟨?_, ?_, ?_, ?_⟩, ?_, ?_⟩ <;> first | go_keep | (go_grown; done)))
    (first
      | (go_at_call 16; refine (HS.out _).mono ?_; rintro e w1 ⟨rfl, hB1⟩))
  obtain ⟨⟨c0', c1', c2', c3'⟩, -, hBw⟩ : _ ∧ _ ∧ _ := by assumption
  have hT2 := (HT1.out.kept (Below.refl _ _).drew).kept hB1
  have hz1 := hBw.size
  have HT1' := Lib.hid hT2
  have hbx : w.heap.size < w1.heap.size := World.block_lt_of_cell? _ _ c0'
  have hbz : b + 1 < w1.heap.size := (Array.getElem?_eq_some_iff.1 hT2.tab).1
  have c9 : w1.cell? ⟨b + 1, 9, none⟩ = some (.int .i64 n) := hT2.cell 9
  have c10 : w1.cell? ⟨b + 1, 10, none⟩ = some (.int .i64 m) := hT2.cell 10
  have f9 : w1.frozen? ⟨b + 1, 9, none⟩ = false := hT2.frozen 9
  have f10 : w1.frozen? ⟨b + 1, 10, none⟩ = false := hT2.frozen 10
  have HB1 := Lib.hid hBw
  have hB2 := Lib.hid ((hBw.alloc hBw.size (.cells #[.int .u64 0, .int .i64 0] 50)))
  have HT2 := Lib.hid (hT2.kept ((Below.refl _ _).alloc (Nat.le_refl _) (.cells #[.int .u64 0, .int .i64 0] 50)))
  clear hT2 hB1 hBw HT1 hT m8 ms
  go_wp2_with (first
    | (at_lookup; refine look_no rfl _ _ 44 rfl 31 50 law31 Try.underlying44 (zero50 _) (b + 2 + s) Q (D s) rfl ((HT1'.out).shards s hsl) _ kl rfl hkl hno ?_))
  go_ret
  exact ⟨rfl, HT2.out, TF.of_below hB2.out⟩

end Go.Proofs.Ytmphajjaepahkaa
