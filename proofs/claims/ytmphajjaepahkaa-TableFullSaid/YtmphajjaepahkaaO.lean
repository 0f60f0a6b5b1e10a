/-
  (*Table).at where one listens. Part of the proof of TableFull. No condition beyond the theorems' own hypotheses.
-/
import Derived.Test.YtmphajjaepahkaaN
import Derived.BigQuiet
import Derived.Deep.QuietTactic
namespace Go.Proofs.Ytmphajjaepahkaa
open Go.RowKit Go.Maps

theorem look_one {w : World} {b nn : Nat} {x0 : Int} {kl : Lit} (hkl : keyOf Try.prog 33 (.int .u64 x0) = some kl) {v0 : Value} (hown : w.ownsMap Try.prog 33 RH b nn (one kl v0)) :
    (Instr.lookup 43 (.map (some b)) (.int .u64 x0) false).run Try.prog w = .ok v0 w := by
  obtain ⟨v, ps, h1, h2⟩ := hown.lookup law33 Try.underlying43 (zero29 w) (zd := .held (.agg #[.int .u32 0, .int .u16 0])) (zp := []) rfl hkl
  have : (one kl v0).atKey kl (.held (.agg #[.int .u32 0, .int .u16 0])) = (.held v0 : DV) := by
    unfold one DataW.atKey
    simp [WideAt.sameKey_self (law33.key hkl)]
  rw [this] at h2
  simp [RH] at h2
  rw [h1, h2.1]

set_option maxHeartbeats 4000000 in
set_option maxRecDepth 100000 in
theorem at_yes (Q b : Nat) (D : Nat → DV) (n m : Int) (x0 : Int) (kl : Lit) (hkl : keyOf Try.prog 33 (.int .u64 x0) = some kl) (i p : Int) (w : World) (hT : TabAt w Q b D (one kl (.agg #[.int .u32 i, .int .u16 p])) n m) :
    Calls Try.prog 19 #[.pointer (some ⟨b + 1, 0, none⟩), .agg #[.int .u32 i, .int .u16 p]] w fun e w' => ∃ g cap, e = .returned (.slice (some ⟨g, 0, none⟩) 1 cap) ∧ w'.cell? ⟨g, 0, none⟩ = some (.int .u64 x0) ∧ Below w.heap.size w w' := by
  have hT1 := hT.kept ((Below.refl _ w).alloc (Nat.le_refl _) (.cells #[.int .u32 i, .int .u16 p] 29))
  have m8 : (w.alloc (.cells #[.int .u32 i, .int .u16 p] 29)).cell? ⟨b + 1, 8, none⟩ = some (.map (some b)) := hT1.cell 8
  have hbz : b + 1 < w.heap.size := (Array.getElem?_eq_some_iff.1 hT.tab).1
  have HT1 := Lib.hid hT1
  have hT2 := hT1.kept ((Below.refl _ _).alloc (Nat.le_refl _) (.cells #[.map (some b)] 43))
  have hS := sorted_one (w.heap.size + 1) b Q x0 kl hkl _ _ (by simp) hT2.ears
  have HS := Lib.hid hS
  have HT2 := Lib.hid hT2
  clear hT1 hT2 hS
  obtain ⟨i0, hi, hz0, hz1, hz2⟩ := info_parts info33
  go_enter Try.func19, Try.ntmps19
  go_wp2_with (first
    | (go_at_call 23; refine (keys_any _ _).mono ?_; rintro e w' ⟨rfl, rfl⟩)
    | (go_at_call 22; refine HS.out.mono ?_; rintro e w1 ⟨g, cap, rfl, hg, hc, hb⟩))
  have hT3 := HT2.out.kept (hb.mono (by simp))
  have m8' : w1.cell? ⟨b + 1, 8, none⟩ = some (.map (some b)) := hT3.cell 8
  have hlk := look_one hkl hT3.ears
  have hx0 : w1.cell? ⟨w.heap.size, 0, none⟩ = some (.int .u32 i) := (hb.cell (p := ⟨w.heap.size, 0, none⟩) (by simp; omega)).trans (by simp)
  have hx1 : w1.cell? ⟨w.heap.size, 1, none⟩ = some (.int .u16 p) := (hb.cell (p := ⟨w.heap.size, 1, none⟩) (by simp; omega)).trans (by simp)
  have HT3 := Lib.hid hT3
  have hB1 : Below w.heap.size w w1 := ((((Below.refl _ w).alloc (Nat.le_refl _) _).alloc (by simp) _).trans (hb.mono (by simp; omega)))
  have HB1 := Lib.hid hB1
  clear hT3 hb hB1
  refine wp_loop_rounds 2 ?_
  rw [rounds_succ]
  go_wp2
  go_region_held3 (fun w' => w'.cell? ⟨b + 1, 8, none⟩ = some (.map (some b)) ∧ w'.cell? ⟨w.heap.size, 0, none⟩ = some (.int .u32 i) ∧ w'.cell? ⟨w.heap.size, 1, none⟩ = some (.int .u16 p) ∧ (Instr.lookup 43 (.map (some b)) (.int .u64 x0) false).run Try.prog w' = .ok (.agg #[.int .u32 i, .int .u16 p]) w' ∧ Below w.heap.size w w')
    (first | assumption | (exact ⟨by simpa [go_sem] using m8', by simpa [go_sem] using hx0, by simpa [go_sem] using hx1, look_one hkl (HT3.out.kept (Below.refl _ _).drew).ears, HB1.out.drew⟩))
    (fail)

  go_wp2_with (first
    | (at_builtin; refine wp_app rfl _ _ 54 rfl w1.heap.size 33 i0 (.int .u64 0) 1 8 Try.underlying54 hi hz0 hz1 hz2 rfl (by decide) _ 0 [] rfl (World.ownsRow_nil _ _ _ _) ⟨w1.heap.size, 0, none⟩ 1 1 [.int .u64 x0] rfl rfl (cells_new _ _ _ _ (by simp)) (by simp [Value.oneCell']) 1 [.int .u64 x0] rfl (by omega) rfl (by unfold maxLen; omega) (by omega) (by simp) ?_; intro g2 cap2 w2 hown2 hb2 hg2))
  have hc2 : w2.cell? ⟨g2, 0, none⟩ = some (.int .u64 x0) := by
    rcases hown2.2 with ⟨h0, _⟩ | ⟨g', cap', cur, h0, hbase, hgb, r1, r2, r3, r4⟩
    · cases h0
    · cases h0
      have : cur[0]? = some (.int .u64 x0) := by
        have h4 := congrArg (fun l => l[0]?) r4
        simpa using h4
      simp [World.cell?, hgb, this]
  have hB2 : Below w.heap.size w w2 := ((HB1.out.alloc HB1.out.size _).drew).trans (hb2.mono HB1.out.size)
  clear hg2 hown2
  rw [rounds_succ]
  go_wp2
  go_ret
  exact ⟨_, _, rfl, hc2, hB2⟩
set_option maxHeartbeats 4000000 in
set_option maxRecDepth 100000 in
theorem at_no (Q b : Nat) (D : Nat → DV) (n m : Int) (x0 : Int) (kl : Lit) (hkl : keyOf Try.prog 33 (.int .u64 x0) = some kl) (i p i' p' : Int) (hne : i' ≠ i) (w : World) (hT : TabAt w Q b D (one kl (.agg #[.int .u32 i', .int .u16 p'])) n m) :
    Calls Try.prog 19 #[.pointer (some ⟨b + 1, 0, none⟩), .agg #[.int .u32 i, .int .u16 p]] w fun e w' => e = .returned (.slice none 0 0) ∧ Below w.heap.size w w' := by
  have hT1 := hT.kept ((Below.refl _ w).alloc (Nat.le_refl _) (.cells #[.int .u32 i, .int .u16 p] 29))
  have m8 : (w.alloc (.cells #[.int .u32 i, .int .u16 p] 29)).cell? ⟨b + 1, 8, none⟩ = some (.map (some b)) := hT1.cell 8
  have hbz : b + 1 < w.heap.size := (Array.getElem?_eq_some_iff.1 hT.tab).1
  have HT1 := Lib.hid hT1
  have hT2 := hT1.kept ((Below.refl _ _).alloc (Nat.le_refl _) (.cells #[.map (some b)] 43))
  have hS := sorted_one (w.heap.size + 1) b Q x0 kl hkl _ _ (by simp) hT2.ears
  have HS := Lib.hid hS
  have HT2 := Lib.hid hT2
  clear hT1 hT2 hS
  have hnb : (i' == i) = false := by simpa using hne
  go_enter Try.func19, Try.ntmps19
  go_wp2_with (first
    | (go_at_call 23; refine (keys_any _ _).mono ?_; rintro e w' ⟨rfl, rfl⟩)
    | (go_at_call 22; refine HS.out.mono ?_; rintro e w1 ⟨g, cap, rfl, hg, hc, hb⟩))
  have hT3 := HT2.out.kept (hb.mono (by simp))
  have m8' : w1.cell? ⟨b + 1, 8, none⟩ = some (.map (some b)) := hT3.cell 8
  have hlk := look_one hkl hT3.ears
  have hx0 : w1.cell? ⟨w.heap.size, 0, none⟩ = some (.int .u32 i) := (hb.cell (p := ⟨w.heap.size, 0, none⟩) (by simp; omega)).trans (by simp)
  have hx1 : w1.cell? ⟨w.heap.size, 1, none⟩ = some (.int .u16 p) := (hb.cell (p := ⟨w.heap.size, 1, none⟩) (by simp; omega)).trans (by simp)
  have HT3 := Lib.hid hT3
  have hB1 : Below w.heap.size w w1 := ((((Below.refl _ w).alloc (Nat.le_refl _) _).alloc (by simp) _).trans (hb.mono (by simp; omega)))
  have HB1 := Lib.hid hB1
  clear hT3 hb hB1
  refine wp_loop_rounds 2 ?_
  rw [rounds_succ]
  go_wp2
  go_region_held3 (fun w' => w'.cell? ⟨b + 1, 8, none⟩ = some (.map (some b)) ∧ w'.cell? ⟨w.heap.size, 0, none⟩ = some (.int .u32 i) ∧ w'.cell? ⟨w.heap.size, 1, none⟩ = some (.int .u16 p) ∧ (Instr.lookup 43 (.map (some b)) (.int .u64 x0) false).run Try.prog w' = .ok (.agg #[.int .u32 i', .int .u16 p']) w' ∧ Below w.heap.size w w')
    (first | assumption | (exact ⟨by simpa [go_sem] using m8', by simpa [go_sem] using hx0, by simpa [go_sem] using hx1, look_one hkl (HT3.out.kept (Below.refl _ _).drew).ears, HB1.out.drew⟩))
    (fail)

  go_wp2
  rw [rounds_succ]
  go_wp2
  go_ret
  exact ⟨rfl, HB1.out.drew⟩
end Go.Proofs.Ytmphajjaepahkaa
