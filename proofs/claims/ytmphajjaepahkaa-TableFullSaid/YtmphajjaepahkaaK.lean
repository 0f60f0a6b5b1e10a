/-
  (*Table).Old at any table whose rests are no more than counted. Part of the proof of TableFull. No condition beyond the theorems' own hypotheses.
-/
import Derived.Test.YtmphajjaepahkaaJ
namespace Go.Proofs.Ytmphajjaepahkaa
open Go.RowKit Go.Maps

def sumTo (c : Nat → Nat) : Nat → Nat
  | 0 => 0
  | k + 1 => sumTo c k + c k
theorem sumTo_mono (c : Nat → Nat) (j : Nat) : ∀ k, j ≤ k → sumTo c j ≤ sumTo c k
  | 0, h => by rw [Nat.le_zero.1 h]; exact Nat.le_refl _
  | k + 1, h => by
    by_cases e : j = k + 1
    · rw [e]; exact Nat.le_refl _
    · have := sumTo_mono c j k (by omega)
      simp only [sumTo]; omega
def tmaps (b : Nat) : Array Value :=
  #[.map (some (b + 2)), .map (some (b + 3)), .map (some (b + 4)), .map (some (b + 5)), .map (some (b + 6)), .map (some (b + 7)), .map (some (b + 8)), .map (some (b + 9))]
theorem tmaps_at (b k : Nat) (h : k < 8) : (tmaps b)[k]? = some (.map (some (b + 2 + k))) := by
  match k, h with
  | 0, _ | 1, _ | 2, _ | 3, _ | 4, _ | 5, _ | 6, _ | 7, _ => rfl
theorem tm0 (b : Nat) (w : World) : (Instr.index 45 (.agg (tmaps b)) (.int .i64 ((0 : Nat) : Int))).run Try.prog w = .ok (.map (some (b + 2 + 0))) w := by kernel_rfl
theorem tm1 (b : Nat) (w : World) : (Instr.index 45 (.agg (tmaps b)) (.int .i64 ((1 : Nat) : Int))).run Try.prog w = .ok (.map (some (b + 2 + 1))) w := by kernel_rfl
theorem tm2 (b : Nat) (w : World) : (Instr.index 45 (.agg (tmaps b)) (.int .i64 ((2 : Nat) : Int))).run Try.prog w = .ok (.map (some (b + 2 + 2))) w := by kernel_rfl
theorem tm3 (b : Nat) (w : World) : (Instr.index 45 (.agg (tmaps b)) (.int .i64 ((3 : Nat) : Int))).run Try.prog w = .ok (.map (some (b + 2 + 3))) w := by kernel_rfl
theorem tm4 (b : Nat) (w : World) : (Instr.index 45 (.agg (tmaps b)) (.int .i64 ((4 : Nat) : Int))).run Try.prog w = .ok (.map (some (b + 2 + 4))) w := by kernel_rfl
theorem tm5 (b : Nat) (w : World) : (Instr.index 45 (.agg (tmaps b)) (.int .i64 ((5 : Nat) : Int))).run Try.prog w = .ok (.map (some (b + 2 + 5))) w := by kernel_rfl
theorem tm6 (b : Nat) (w : World) : (Instr.index 45 (.agg (tmaps b)) (.int .i64 ((6 : Nat) : Int))).run Try.prog w = .ok (.map (some (b + 2 + 6))) w := by kernel_rfl
theorem tm7 (b : Nat) (w : World) : (Instr.index 45 (.agg (tmaps b)) (.int .i64 ((7 : Nat) : Int))).run Try.prog w = .ok (.map (some (b + 2 + 7))) w := by kernel_rfl
theorem tmaps_run (b k : Nat) (h : k < 8) (w : World) : (Instr.index 45 (.agg (tmaps b)) (.int .i64 k)).run Try.prog w = .ok (.map (some (b + 2 + k))) w := by
  match k, h with
  | 0, _ => exact tm0 b w
  | 1, _ => exact tm1 b w
  | 2, _ => exact tm2 b w
  | 3, _ => exact tm3 b w
  | 4, _ => exact tm4 b w
  | 5, _ => exact tm5 b w
  | 6, _ => exact tm6 b w
  | 7, _ => exact tm7 b w
theorem ownsMap_of_block {w w' : World} {k : TypeId} {R : Value → Option (DV × List MemPlace)} {b n : Nat} {D : DV} (h : w.ownsMap Try.prog k R b n D) (hne : w'.heap[b]? = w.heap[b]?) : w'.ownsMap Try.prog k R b n D := by
  obtain ⟨es, clock, hb, F, hs, hD⟩ := h
  exact ⟨es, clock, hne.trans hb, F, hs, hD⟩
theorem TF.of_two {b c : Nat} {w w1 w2 : World} (h : TF b w w1) (hg : Two (b + 1) c w1 w2) (h0 : b ≤ c) (h1 : c < b + 10) : TF b w w2 :=
  h.trans ⟨hg.os, hg.tape, hg.output, hg.size, fun j hj hb => hg.block j hj (by omega) (by omega)⟩

set_option maxHeartbeats 4000000 in
set_option maxRecDepth 100000 in
theorem old_any (Q b : Nat) (now n m : Int) (es : Nat → List (Lit × DV)) (E : DV) (w : World) (hT : TabAt w Q b (fun s => .map (es s)) E n m) (hsh : ∀ s, s < 8 → Shaped (es s))
    (c : Nat → Nat) (hc : ∀ s, (es s).countP (fun p => expired now p.1 p.2) = c s) (hm : (sumTo c 8 : Int) ≤ m) (hm1 : m ≤ 5000) :
    Calls Try.prog 10 #[.pointer (some ⟨b + 1, 0, none⟩), .int .i64 now] w fun e w' =>
      e = .returned (.int .i64 (sumTo c 8 : Nat)) ∧ TF b w w' := by
  have hbz : b + 1 < w.heap.size := (Array.getElem?_eq_some_iff.1 hT.tab).1
  have hbz9 : ∀ s, s < 8 → b + 2 + s < w.heap.size := fun s hs => (hT.shards s hs).lt
  have hb9 := hbz9 7 (by omega)
  clear hbz9
  have hT1 := hT.kept (((Below.refl _ w).alloc (Nat.le_refl _) (.cells #[.pointer (some ⟨b + 1, 0, none⟩)] 23)).alloc (by simp) (.cells #[.int .i64 now] 2))
  have m0 := hT1.cell 0
  have m1 := hT1.cell 1
  have m2 := hT1.cell 2
  have m3 := hT1.cell 3
  have m4 := hT1.cell 4
  have m5 := hT1.cell 5
  have m6 := hT1.cell 6
  have m7 := hT1.cell 7
  have m8 := hT1.cell 8
  have m10 := hT1.cell 10
  simp [tcells] at m0 m1 m2 m3 m4 m5 m6 m7 m8 m10
  have HT1 := Lib.hid hT1
  clear hT1
  go_enter Try.func10, Try.ntmps10
  go_wp2_with (go_at_call 15; refine (made_yes _ b _ m8).mono ?_; rintro e w' ⟨rfl, rfl⟩)
  rw [show (#[.map (some (b + 2)), .map (some (b + 3)), .map (some (b + 4)), .map (some (b + 5)), .map (some (b + 6)), .map (some (b + 7)), .map (some (b + 8)), .map (some (b + 9))] : Array Value) = tmaps b from rfl]
  have hB0 : Below w.heap.size w ((w.alloc (.cells #[.pointer (some ⟨b + 1, 0, none⟩)] 23 (0, 0))).alloc (.cells #[.int .i64 now] 2 (0, 0))) := by go_grown
  have HM := Lib.hid hm
  have HCn := Lib.hid hc
  clear m0 m1 m2 m3 m4 m5 m6 m7 m8 m10 hc hm hT
  go_loopw [19] (fun v wr => ∃ k : Nat, k ≤ 8 ∧ v = .int .i64 k ∧ TF b w wr ∧ wr.cell? ⟨w.heap.size, 0, none⟩ = some (.pointer (some ⟨b + 1, 0, none⟩)) ∧ wr.cell? ⟨w.heap.size + 1, 0, none⟩ = some (.int .i64 now) ∧
      Hid (wr.heap[b + 1]? = some (.cells (tcells b n (m - (sumTo c k : Nat))) 47 (0, 0))) ∧ Hid (∀ s, k ≤ s → s < 8 → wr.ownsMap Try.prog 31 RH (b + 2 + s) Q (.map (es s))))
    (fun v _ => 8 - (intOf v).toNat)
  case atStart =>
    refine ⟨0, by omega, rfl, TF.of_below hB0, by simp, by simp, Lib.hid (by simpa [sumTo] using HT1.out.tab), Lib.hid fun s _ hs => HT1.out.shards s hs⟩
  case round =>
    obtain ⟨k, hk, rfl, hF, hp, hnw, HTk, HSk⟩ := hrel
    by_cases hlt : k < 8
    · have hlt' : (k : Int) < 8 := by omega
      have hk0 : (0 : Int) ≤ (k : Int) := by omega
      have hat := fun w => tmaps_run b k hlt w
      have hle : sumTo c (k + 1) ≤ sumTo c 8 := sumTo_mono c _ _ (by omega)
      have hs1 : sumTo c (k + 1) = sumTo c k + c k := rfl
      have hD := delf Q b (b + 2 + k) (by omega) now n (m - (sumTo c k : Nat)) (es k) wr (HSk.out k (Nat.le_refl _) hlt) (hsh k hlt) (w.heap.size + 1) w.heap.size (by omega) (by omega) (by omega) (by omega) hnw hp HTk.out (by rw [HCn.out k]; have := HM.out; omega) (by omega)
      have HD := Lib.hid hD
      clear hD hle hs1
      go_wp2_with (go_at_call 17; refine (HD.out).mono ?_; rintro e w2 ⟨rfl, hg2, hT2⟩)
      have hblk : ∀ a, a < w.heap.size + 2 → a ≠ b + 1 → a ≠ b + 2 + k → w2.heap[a]? = wr.heap[a]? := fun a ha h1 h2 => hg2.block a (Nat.lt_of_lt_of_le ha (by have := World.block_lt_of_cell? _ _ hnw; simp at this; omega)) h1 h2
      go_roundw
      case rel =>
        refine ⟨k + 1, by omega, by go_num, hF.of_two hg2 (by omega) (by omega), (World.cell?_of_block (hblk _ (by simp) (by simp; omega) (by simp; omega))).trans hp, (World.cell?_of_block (hblk _ (by simp) (by simp; omega) (by simp; omega))).trans hnw, Lib.hid ?_, Lib.hid fun s hs1 hs2 => ownsMap_of_block (HSk.out s (by omega) hs2) (hblk _ (by omega) (by omega) (by omega))⟩
        rw [HCn.out k] at hT2
        rw [hT2]
        congr 3
        simp only [sumTo]
        omega
      case measure => simp [intOf]; omega
    · obtain rfl : k = 8 := by omega
      clear hlt
      have c10 : wr.cell? ⟨b + 1, 10, none⟩ = some (.int .i64 (m - (sumTo c 8 : Nat))) := by simp [World.cell?, HTk.out, tcells]
      have hm0 : (0 : Int) ≤ (sumTo c 8 : Nat) := by omega
      have hm2 := HM.out
      go_wp2
      go_ret
      refine ⟨?_, hF⟩
      rw [show m - (m - (sumTo c 8 : Nat)) = ((sumTo c 8 : Nat) : Int) by omega]
      rfl
end Go.Proofs.Ytmphajjaepahkaa
