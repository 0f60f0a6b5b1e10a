/-
  (*Table).Find where one listens. Part of the proof of TableFull. No condition beyond the theorems' own hypotheses.
-/
import Derived.Test.YtmphajjaepahkaaO
import Derived.Test.YtmphajjaepahkaaH
namespace Go.Proofs.Ytmphajjaepahkaa
open Go.RowKit

set_option maxHeartbeats 6400000 in
set_option maxRecDepth 20000 in
theorem find_lis (Q b : Nat) (D : Nat → DV) (E : DV) (n m : Int) (w : World) (hT : TabAt w Q b D E n m)
    (i1 p1 i2 p2 : Int) (a0 : 0 ≤ i1) (a1 : i1 ≤ 4294967295) (b0 : 0 ≤ i2) (b1 : i2 ≤ 4294967295) (c0 : 0 ≤ p1) (c1 : p1 ≤ 65535) (d0 : 0 ≤ p2) (d1 : p2 ≤ 65535)
    (ok : Bool) (sk u0 : Int) (hlk : Looks (D (shN i1 p1 i2 p2)) (.agg #[.int .u32 i1, .int .u16 p1, .int .u32 i2, .int .u16 p2]) (.agg #[.int .u64 sk, .int .i64 u0]) ok) (now : Int) (x0 : Int) (kx : Lit) (hkx : keyOf Try.prog 33 (.int .u64 x0) = some kx) (hi1 : 0 ≠ i1) (hE : E = one kx (.agg #[.int .u32 0, .int .u16 p1]))
    (hcase : ok = false ∨ (ok = true ∧ sk = 0 ∧ u0 ≤ now)) :
    Calls Try.prog 11 #[.pointer (some ⟨b + 1, 0, none⟩), .agg #[.int .u32 i1, .int .u16 p1, .int .u32 i2, .int .u16 p2], .int .u32 0, .int .i64 now] w fun e w' => e = .returned (.tuple #[.int .u8 2, .int .u64 x0]) ∧ TabAt w' Q b D E n m ∧ Below w.heap.size w w' := by
  have hsl := shN_lt i1 p1 i2 p2
  have hS := shardN i1 p1 i2 p2 a0 a1 b0 b1 c0 c1 d0 d1
  generalize shN i1 p1 i2 p2 = s at *
  have HS := Lib.hid hS
  clear hS
  have hs1 : (s : Int) < 8 := by omega
  have hs2 : (0 : Int) ≤ (s : Int) := by omega
  have hT1 := hT.kept ((Below.refl _ w).alloc (Nat.le_refl _) (.cells #[.int .u32 i1, .int .u16 p1, .int .u32 i2, .int .u16 p2] 31))
  have m8 : (w.alloc (.cells #[.int .u32 i1, .int .u16 p1, .int .u32 i2, .int .u16 p2] 31)).cell? ⟨b + 1, 8, none⟩ = some (.map (some b)) := hT1.cell 8
  have HT1 := Lib.hid hT1
  clear hT1 
  have hcase := Lib.hid hcase
  have hE := Lib.hid hE
  have hi1 := Lib.hid hi1
  have hkx := Lib.hid hkx
  have hbz : b + 9 < w.heap.size := (hT.shards 7 (by omega)).lt
  go_enter Try.func11, Try.ntmps11
  go_wp2_with (go_at_call 15; refine (made_yes _ b _ m8).mono ?_; rintro e w' ⟨rfl, rfl⟩)
  go_upto_region 3 with fail
  go_cut [10, 11] (fun s10 s11 wx => (∃ g : Nat, s10 = .pointer (some ⟨g, 0, none⟩) ∧ s11 = .bool ok ∧ wx.cell? ⟨g, 0, none⟩ = some (.int .u64 sk) ∧ wx.cell? ⟨g, 1, none⟩ = some (.int .i64 u0)) ∧ (wx.cell? ⟨w.heap.size, 0, none⟩ = some (.int .u32 i1) ∧ wx.cell? ⟨w.heap.size, 1, none⟩ = some (.int .u16 p1) ∧ wx.cell? ⟨w.heap.size, 2, none⟩ = some (.int .u32 i2) ∧ wx.cell? ⟨w.heap.size, 3, none⟩ = some (.int .u16 p2)) ∧ TabAt wx Q b D E n m ∧ Below w.heap.size w wx)
  case first =>
    go_region_held3 (fun w' => (w'.cell? ⟨w.heap.size, 0, none⟩ = some (.int .u32 i1) ∧ w'.cell? ⟨w.heap.size, 1, none⟩ = some (.int .u16 p1) ∧ w'.cell? ⟨w.heap.size, 2, none⟩ = some (.int .u32 i2) ∧ w'.cell? ⟨w.heap.size, 3, none⟩ = some (.int .u16 p2)) ∧ w'.cell? ⟨b + 1, s, none⟩ = some (.map (some (b + 2 + s))) ∧ (Instr.lookup 44 (.map (some (b + 2 + s))) (.agg #[.int .u32 i1, .int .u16 p1, .int .u32 i2, .int .u16 p2]) true).run Try.prog w' = .ok (.tuple #[.agg #[.int .u64 sk, .int .i64 u0], .bool ok]) w' ∧ TabAt w' Q b D E n m ∧ Below w.heap.size w w')
      (first | assumption | (exact keep6 hsl hlk (by assumption) (by assumption) (Nat.le_refl _)) | (exact keep6a hsl hlk (by assumption) (Nat.le_refl _)) | (exact keep6s hsl hlk hbz (by assumption)) | (exact start6 hsl hlk HT1.out) | (exact keep6a hsl hlk (keep6 hsl hlk (start6 hsl hlk HT1.out) (by assumption) (Nat.le_refl _)) (Nat.le_refl _)))
      (first
        | (go_at_call 16; refine (HS.out _).mono ?_; rintro e w1 ⟨rfl, hB1⟩; try have q := new6 hB1))
    all_goals (go_wp2_with fail; go_meet)
    all_goals (obtain ⟨z0, -, -, z3, z4⟩ : _ ∧ _ ∧ _ ∧ _ ∧ _ := by assumption)
    all_goals refine ⟨⟨_, rfl, rfl, ?_, ?_⟩, z0, z3, z4⟩
    all_goals first | (simp; done) | exact setCell2_0 q.1 | exact setCell2_1 q.2.1
  case rest =>
    obtain ⟨⟨g, rfl, rfl, g0, g1⟩, ⟨z0, z1, -, -⟩, hT2, hB2⟩ := hcut
    have hE := hE.out
    subst hE
    have hcase := hcase.out
    have HT2 := Lib.hid hT2
    have HB2 := Lib.hid hB2
    have hwz := World.block_lt_of_cell? _ _ z0
    clear hT2 hB2 hlk m8
    rcases hcase with rfl | ⟨rfl, rfl, k1⟩
    · go_wp2_with (first
        | (go_at_call 19; refine (at_yes Q b D n m x0 kx hkx.out 0 p1 _ HT3.out).mono ?_; rintro e w2 ⟨g2, cap2, rfl, hc2, hb2⟩
           have HT4 := Lib.hid (HT3.out.kept hb2)
           have HB4 := Lib.hid (HB3.out.trans (hb2.mono HB3.out.size)))
        | (go_at_call 19; refine (at_no Q b D n m x0 kx hkx.out i1 p1 0 p1 hi1.out _ HT2.out).mono ?_; rintro e w1 ⟨rfl, hb1⟩
           have d1 : w1.cell? ⟨w.heap.size, 1, none⟩ = some (.int .u16 p1) := (hb1.cell (p := ⟨w.heap.size, 1, none⟩) hwz).trans z1
           have HT3 := Lib.hid (HT2.out.kept hb1)
           have HB3 := Lib.hid (HB2.out.trans (hb1.mono HB2.out.size))))
      go_quiet (fail)
      go_wp2
      go_ret2
      exact ⟨rfl, HT4.out.kept (below_drewN (Below.refl _ _) _), below_drewN HB4.out _⟩
    · have hnow : decide (now < u0) = false := by simpa using k1
      go_wp2_with (first
        | (go_at_call 19; refine (at_yes Q b D n m x0 kx hkx.out 0 p1 _ HT3.out).mono ?_; rintro e w2 ⟨g2, cap2, rfl, hc2, hb2⟩
           have HT4 := Lib.hid (HT3.out.kept hb2)
           have HB4 := Lib.hid (HB3.out.trans (hb2.mono HB3.out.size)))
        | (go_at_call 19; refine (at_no Q b D n m x0 kx hkx.out i1 p1 0 p1 hi1.out _ HT2.out).mono ?_; rintro e w1 ⟨rfl, hb1⟩
           have d1 : w1.cell? ⟨w.heap.size, 1, none⟩ = some (.int .u16 p1) := (hb1.cell (p := ⟨w.heap.size, 1, none⟩) hwz).trans z1
           have HT3 := Lib.hid (HT2.out.kept hb1)
           have HB3 := Lib.hid (HB2.out.trans (hb1.mono HB2.out.size))))
      go_quiet (fail)
      go_wp2
      go_ret2
      exact ⟨rfl, HT4.out.kept (below_drewN (Below.refl _ _) _), below_drewN HB4.out _⟩
end Go.Proofs.Ytmphajjaepahkaa
