/-
  Walks: steer.Pair, table.Shard. Part of the proof of TableFull. No condition beyond the theorems' own hypotheses.
-/
import Derived.Test.YtmphajjaepahkaaB
import Derived.Test.YtmphajjaepahkaaC
import Derived.Test.YtmphajjaepahkaaShelf
import Derived.Deep.RegionHeld3
import Derived.WalkSmall
namespace Go.Proofs.Ytmphajjaepahkaa
open Go.RowKit

theorem spair_any (key : ByteArray) (hk : key.size = 40) (i1 p1 i2 p2 : Int) (a0 : 0 ≤ i1) (a1 : i1 ≤ 4294967295) (b0 : 0 ≤ i2) (b1 : i2 ≤ 4294967295) (c0 : 0 ≤ p1) (c1 : p1 ≤ 65535) (d0 : 0 ≤ p2) (d1 : p2 ≤ 65535) (w : World) :
    Calls Try.prog 20 #[.string key, .agg #[.int .u32 i1, .int .u16 p1, .int .u32 i2, .int .u16 p2]] w fun e w' => e = .returned (.tuple #[.int .u32 (hs key (strOfNums (textL i1 p1 i2 p2)) 96).2, .int .i64 0]) ∧ Below w.heap.size w w' := by
  go_enter Try.func20, Try.ntmps20
  go_wp2_with (first
    | (go_at_call 25; refine (text_any i1 p1 i2 p2 a0 a1 b0 b1 c0 c1 d0 d1 _).mono ?_; rintro e w1 ⟨rfl, hB1⟩)
    | (go_at_call 24; refine (hash_any key _ hk (textL_size _ _ _ _) _).mono ?_; rintro e w2 ⟨rfl, n2, rfl⟩))
  go_returns
  exact ⟨rfl, below_drewN (((Below.refl _ w).alloc (Nat.le_refl _) _).trans (hB1.mono (by simp))) _⟩

def mZ : ByteArray := ⟨(Lib.repeatL [109, 90] 20).toArray⟩
theorem mZ_size : mZ.size = 40 := by decide +kernel
theorem rep_mZ (w : World) : Calls Try.prog 21 #[.string ⟨#[109, 90]⟩, .int .i64 20] w fun e w' => e = .returned (.string mZ) ∧ Below w.heap.size w w' :=
  Try.strings_Repeat ⟨#[109, 90]⟩ 20 w (by omega) (by decide)

/-- The hash of a pair's bytes by the key of mZ. -/
def shardH (i1 p1 i2 p2 : Int) : Int := (hs mZ (strOfNums (textL i1 p1 i2 p2)) 96).2
def shardOf (i1 p1 i2 p2 : Int) : Int := shardH i1 p1 i2 p2 % 8
theorem hs_bounds (key text : ByteArray) : ∀ i, 0 ≤ (hs key text i).2 ∧ (hs key text i).2 ≤ 4294967295
  | 0 => by simp [hs]
  | i + 1 => by
    simp only [hs]
    split
    · have := wf_bits .xor .u32 (hs key text i).2 (hs key text i).1
      simp [Lit.wf, IntKind.min, IntKind.max, IntKind.signed, IntKind.bits] at this
      omega
    · exact hs_bounds key text i
theorem shardOf_bounds (i1 p1 i2 p2 : Int) : 0 ≤ shardOf i1 p1 i2 p2 ∧ shardOf i1 p1 i2 p2 ≤ 7 := by unfold shardOf; omega

theorem keep4 {b : Nat} {v0 v1 v2 v3 : Value} {B : Nat} {W0 w1 w2 : World} (h : (w1.cell? ⟨b, 0, none⟩ = some v0 ∧ w1.cell? ⟨b, 1, none⟩ = some v1 ∧ w1.cell? ⟨b, 2, none⟩ = some v2 ∧ w1.cell? ⟨b, 3, none⟩ = some v3) ∧ Below B W0 w1)
    (hb : Below w1.heap.size w1 w2) (hB : B ≤ W0.heap.size) : (w2.cell? ⟨b, 0, none⟩ = some v0 ∧ w2.cell? ⟨b, 1, none⟩ = some v1 ∧ w2.cell? ⟨b, 2, none⟩ = some v2 ∧ w2.cell? ⟨b, 3, none⟩ = some v3) ∧ Below B W0 w2 := by
  obtain ⟨⟨h0, h1, h2, h3⟩, h4⟩ := h
  have hl : b < w1.heap.size := World.block_lt_of_cell? _ _ h0
  exact ⟨⟨(hb.cell (p := ⟨b, 0, none⟩) hl).trans h0, (hb.cell (p := ⟨b, 1, none⟩) hl).trans h1, (hb.cell (p := ⟨b, 2, none⟩) hl).trans h2, (hb.cell (p := ⟨b, 3, none⟩) hl).trans h3⟩, h4.trans (hb.mono (Nat.le_trans hB h4.size))⟩

set_option maxHeartbeats 800000 in
theorem shard_any (i1 p1 i2 p2 : Int) (a0 : 0 ≤ i1) (a1 : i1 ≤ 4294967295) (b0 : 0 ≤ i2) (b1 : i2 ≤ 4294967295) (c0 : 0 ≤ p1) (c1 : p1 ≤ 65535) (d0 : 0 ≤ p2) (d1 : p2 ≤ 65535) (w : World) :
    Calls Try.prog 16 #[.agg #[.int .u32 i1, .int .u16 p1, .int .u32 i2, .int .u16 p2]] w fun e w' => e = .returned (.int .i64 (shardOf i1 p1 i2 p2)) ∧ Below w.heap.size w w' := by
  go_enter Try.func16, Try.ntmps16
  go_wp2
  go_region_held3 (fun w' => (w'.cell? ⟨w.heap.size, 0, none⟩ = some (.int .u32 i1) ∧ w'.cell? ⟨w.heap.size, 1, none⟩ = some (.int .u16 p1) ∧ w'.cell? ⟨w.heap.size, 2, none⟩ = some (.int .u32 i2) ∧ w'.cell? ⟨w.heap.size, 3, none⟩ = some (.int .u16 p2)) ∧ Below w.heap.size w w')
    (first | (exact keep4 (by assumption) (by assumption) (Nat.le_refl _)) | (refine ⟨⟨?_, ?_, ?_, ?_⟩, ?_⟩ <;> first | go_keep | (go_grown; done)))
    (first
      | (go_at_call 21; refine (rep_mZ _).mono ?_; rintro e w1 ⟨rfl, hB1⟩)
      | (go_at_call 20; refine (spair_any mZ mZ_size i1 p1 i2 p2 a0 a1 b0 b1 c0 c1 d0 d1 _).mono ?_; rintro e w2 ⟨rfl, hB2⟩))
  have hBw : Below w.heap.size w w2 := by rename_i h; exact h.2
  have hb := hs_bounds mZ (strOfNums (textL i1 p1 i2 p2)) 96
  have hx : shardOf i1 p1 i2 p2 = (hs mZ (strOfNums (textL i1 p1 i2 p2)) 96).2 % 8 := rfl
  generalize (hs mZ (strOfNums (textL i1 p1 i2 p2)) 96).2 = x at *
  obtain ⟨hb1, hb2⟩ := hb
  have Hx := Lib.hid hx
  clear hx
  go_wp2
  go_ret
  exact ⟨by rw [Hx.out]; rfl, hBw⟩
end Go.Proofs.Ytmphajjaepahkaa
