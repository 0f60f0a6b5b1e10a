/-
  Walk: the bytes of a pair. Part of the proof of TableFull. No condition beyond the theorems' own hypotheses.
-/
import Derived.Test.YtmphajjaepahkaaProg
import Derived.Test.YtmphajjaepahkaaBase
namespace Go.Proofs.Ytmphajjaepahkaa
open Go.RowKit

theorem info5 : (Try.prog.info? 5).map (fun i => (i.zero, i.size, i.bytes)) = some (some (.int .u8 0), 1, 1) := by kernel_rfl

theorem own_bytes {w : World} {base g n cap : Nat} {l : List Int} (h : w.ownsRow base 5 1 (.slice (some ⟨g, 0, none⟩) n cap) n (l.map (Value.int .u8))) :
    ∀ i, i < n → w.cell? ⟨g, 0 + i, none⟩ = some (.int .u8 (l.getD i 0)) := by
  intro i hi
  have hl : l.length = n := by have := h.1; simpa using this
  have := h.cells (g := g) rfl i (.int .u8 (l.getD i 0)) (by simp [List.getD, show i < l.length by omega])
  rwa [Addr.add_lit] at this

def textL (i1 p1 i2 p2 : Int) : List Int :=
  [i1 / 16777216, i1 / 65536 % 256, i1 / 256 % 256, i1 % 256, i2 / 16777216, i2 / 65536 % 256, i2 / 256 % 256, i2 % 256, p1 / 256, p1 % 256, p2 / 256, p2 % 256]
set_option maxRecDepth 100000 in
set_option maxHeartbeats 3200000 in
theorem text_any (i1 p1 i2 p2 : Int) (a0 : 0 ≤ i1) (a1 : i1 ≤ 4294967295) (b0 : 0 ≤ i2) (b1 : i2 ≤ 4294967295) (c0 : 0 ≤ p1) (c1 : p1 ≤ 65535) (d0 : 0 ≤ p2) (d1 : p2 ≤ 65535) (w : World) :
    Calls Try.prog 25 #[.agg #[.int .u32 i1, .int .u16 p1, .int .u32 i2, .int .u16 p2]] w fun e w' => e = .returned (.string (strOfNums (textL i1 p1 i2 p2))) ∧ Below w.heap.size w w' := by
  obtain ⟨i0, hi, hz0, hz1, hz2⟩ := info_parts info5
  have x0 : ∀ w, (Instr.index 82 (.agg #[.int .u32 i1, .int .u16 p1, .int .u32 i2, .int .u16 p2]) (.int .i64 0)).run Try.prog w = .ok (.agg #[.int .u32 i1, .int .u16 p1]) w := fun _ => by kernel_rfl
  have x1 : ∀ w, (Instr.index 82 (.agg #[.int .u32 i1, .int .u16 p1, .int .u32 i2, .int .u16 p2]) (.int .i64 1)).run Try.prog w = .ok (.agg #[.int .u32 i2, .int .u16 p2]) w := fun _ => by kernel_rfl
  go_enter Try.func25, Try.ntmps25
  go_wp2
  refine wp_loop_rounds 3 ?_
  rw [rounds_succ]
  go_wp2_with (at_builtin; refine wp_app rfl _ _ 71 rfl (w.heap.size + 1) 5 i0 (.int .u8 0) 1 1 Try.underlying71 hi hz0 hz1 hz2 rfl (by decide) (.slice none 0 0) 0 _ rfl (World.ownsRow_nil _ _ _ _) _ 4 4 [.int .u8 (i1 / 16777216), .int .u8 (i1 / 65536 % 256), .int .u8 (i1 / 256 % 256), .int .u8 (i1 % 256)] rfl rfl (cells_new _ _ _ _ (by simp)) (by simp [Value.oneCell']) 4 [.int .u8 (i1 / 16777216), .int .u8 (i1 / 65536 % 256), .int .u8 (i1 / 256 % 256), .int .u8 (i1 % 256)] rfl (by omega) rfl (by unfold maxLen; omega) (by omega) (by simp <;> omega) ?_; intro g1 cap1 w1 hown1 hB1 _)
  have hC1 := Lib.hid (((Below.refl (w.heap.size + 1) (w.alloc (.cells #[.int .u32 i1, .int .u16 p1, .int .u32 i2, .int .u16 p2] 31))).alloc (by simp) _).alloc (by simp) _ |>.trans hB1)
  have hs1 : w.heap.size + 3 ≤ w1.heap.size := by have := hB1.size; simp at this; omega
  clear hB1
  rw [rounds_succ]
  go_wp2_with (at_builtin; refine wp_app rfl _ _ 71 rfl (w.heap.size + 1) 5 i0 (.int .u8 0) 1 1 Try.underlying71 hi hz0 hz1 hz2 rfl (by decide) (.slice (some ⟨g1, 0, none⟩) 4 cap1) 4 _ rfl ((hown1.alloc _).alloc _) _ 4 4 [.int .u8 (i2 / 16777216), .int .u8 (i2 / 65536 % 256), .int .u8 (i2 / 256 % 256), .int .u8 (i2 % 256)] rfl rfl (cells_new _ _ _ _ (by simp)) (by simp [Value.oneCell']) 8 [.int .u8 (i1 / 16777216), .int .u8 (i1 / 65536 % 256), .int .u8 (i1 / 256 % 256), .int .u8 (i1 % 256), .int .u8 (i2 / 16777216), .int .u8 (i2 / 65536 % 256), .int .u8 (i2 / 256 % 256), .int .u8 (i2 % 256)] rfl (by omega) rfl (by unfold maxLen; omega) (by omega) (by simp <;> omega) ?_; intro g2 cap2 w2 hown2 hB2 _)
  have hC2 := Lib.hid ((hC1.out.alloc (by omega) _).alloc (by simp; omega) _ |>.trans hB2)
  have hs2 : w.heap.size + 3 ≤ w2.heap.size := by have := hB2.size; simp at this; omega
  clear hB2
  rw [rounds_succ]
  have e0 : w2.cell? ⟨w.heap.size, 0, none⟩ = some (.int .u32 i1) := (hC2.out.cell (p := ⟨w.heap.size, 0, none⟩) (by simp)).trans (by simp)
  have e1 : w2.cell? ⟨w.heap.size, 1, none⟩ = some (.int .u16 p1) := (hC2.out.cell (p := ⟨w.heap.size, 1, none⟩) (by simp)).trans (by simp)
  have e2 : w2.cell? ⟨w.heap.size, 2, none⟩ = some (.int .u32 i2) := (hC2.out.cell (p := ⟨w.heap.size, 2, none⟩) (by simp)).trans (by simp)
  have e3 : w2.cell? ⟨w.heap.size, 3, none⟩ = some (.int .u16 p2) := (hC2.out.cell (p := ⟨w.heap.size, 3, none⟩) (by simp)).trans (by simp)
  go_wp2
  refine wp_loop_rounds 3 ?_
  rw [rounds_succ]
  go_wp2_with (at_builtin; refine wp_app rfl _ _ 71 rfl (w.heap.size + 1) 5 i0 (.int .u8 0) 1 1 Try.underlying71 hi hz0 hz1 hz2 rfl (by decide) (.slice (some ⟨g2, 0, none⟩) 8 cap2) 8 _ rfl ((hown2.alloc _).alloc _) _ 2 2 [.int .u8 (p1 / 256), .int .u8 (p1 % 256)] rfl rfl (cells_new _ _ _ _ (by simp)) (by simp [Value.oneCell']) 10 [.int .u8 (i1 / 16777216), .int .u8 (i1 / 65536 % 256), .int .u8 (i1 / 256 % 256), .int .u8 (i1 % 256), .int .u8 (i2 / 16777216), .int .u8 (i2 / 65536 % 256), .int .u8 (i2 / 256 % 256), .int .u8 (i2 % 256), .int .u8 (p1 / 256), .int .u8 (p1 % 256)] rfl (by omega) rfl (by unfold maxLen; omega) (by omega) (by simp <;> omega) ?_; intro g3 cap3 w3 hown3 hB3 _)
  have hC3 := Lib.hid ((hC2.out.alloc (by omega) _).alloc (by simp; omega) _ |>.trans hB3)
  have hs3 : w.heap.size + 3 ≤ w3.heap.size := by have := hB3.size; simp at this; omega
  clear hB3
  rw [rounds_succ]
  go_wp2_with (at_builtin; refine wp_app rfl _ _ 71 rfl (w.heap.size + 1) 5 i0 (.int .u8 0) 1 1 Try.underlying71 hi hz0 hz1 hz2 rfl (by decide) (.slice (some ⟨g3, 0, none⟩) 10 cap3) 10 _ rfl ((hown3.alloc _).alloc _) _ 2 2 [.int .u8 (p2 / 256), .int .u8 (p2 % 256)] rfl rfl (cells_new _ _ _ _ (by simp)) (by simp [Value.oneCell']) 12 [.int .u8 (i1 / 16777216), .int .u8 (i1 / 65536 % 256), .int .u8 (i1 / 256 % 256), .int .u8 (i1 % 256), .int .u8 (i2 / 16777216), .int .u8 (i2 / 65536 % 256), .int .u8 (i2 / 256 % 256), .int .u8 (i2 % 256), .int .u8 (p1 / 256), .int .u8 (p1 % 256), .int .u8 (p2 / 256), .int .u8 (p2 % 256)] rfl (by omega) rfl (by unfold maxLen; omega) (by omega) (by simp <;> omega) ?_; intro g4 cap4 w4 hown4 hB4 _)
  have hC4 := Lib.hid ((hC3.out.alloc (by omega) _).alloc (by simp; omega) _ |>.trans hB4)
  have hs4 : w.heap.size + 3 ≤ w4.heap.size := by have := hB4.size; simp at this; omega
  clear hB4
  have Ho := Lib.hid hown4
  have hrun := run_convert_bytes_arg (P := Try.prog) (w := w4) 71 5 Try.underlying71 Try.underlying5 g4 0 12 cap4 (textL i1 p1 i2 p2) rfl (own_bytes hown4) 9 Try.underlying9
  clear hown4
  rw [rounds_succ]
  go_wp2
  go_ret
  exact ⟨rfl, ((Below.refl _ w).alloc (Nat.le_refl _) _).trans (hC4.out.mono (by omega))⟩

theorem textL_size (i1 p1 i2 p2 : Int) : (strOfNums (textL i1 p1 i2 p2)).size = 12 := by rw [strOfNums_size]; rfl
end Go.Proofs.Ytmphajjaepahkaa
