/-
  Walk: steer.Hash at any key and any bytes of the table's lengths. Part of the proof of TableFull. No condition beyond the theorems' own hypotheses.
-/
import Derived.Test.YtmphajjaepahkaaProg
import Derived.WalkKit
import Derived.WalkSpells
import Derived.Handy
import Derived.BigQuiet
import Derived.Deep.QuietTactic
import Derived.ScopeJumps
import Derived.WalkMore
import Derived.Lib.Hide
namespace Go.Proofs.Ytmphajjaepahkaa
open Go.RowKit

def byteAt (s : ByteArray) (i : Nat) : Int := if h : i < s.size then (s[i].toNat : Int) else 0
def hbit (text : ByteArray) (i : Nat) : Bool := bits .and .u8 (byteAt text (i / 8) / 2 ^ (7 - i % 8)) 1 == 1
def hwin (key : ByteArray) (i : Nat) (win : Int) : Int :=
  bits .or .u32 (win * 2 % 4294967296) (bits .and .u32 (byteAt key (i / 8 + 4) / 2 ^ (7 - i % 8) % 4294967296) 1)
def hwin0 (key : ByteArray) : Int :=
  bits .or .u32 (bits .or .u32 (bits .or .u32 (byteAt key 0 % 4294967296 * 16777216 % 4294967296) (byteAt key 1 % 4294967296 * 65536 % 4294967296)) (byteAt key 2 % 4294967296 * 256 % 4294967296)) (byteAt key 3 % 4294967296)
def hs (key text : ByteArray) : Nat → Int × Int
  | 0 => (hwin0 key, 0)
  | i + 1 => (hwin key i (hs key text i).1, if hbit text i = true then bits .xor .u32 (hs key text i).2 (hs key text i).1 else (hs key text i).2)

theorem byteAt_eq (s : ByteArray) (i : Nat) (h : i < s.size) : (s[i].toNat : Int) = byteAt s i := by simp [byteAt, h]

def hframe (key text : ByteArray) (i : Nat) (win hash : Int) (u : Nat → Value) : Act := { tmps := #[.string key, .string text, undef, undef, .int .u32 0, .int .i64 0, .int .u32 win, .int .u32 hash, .int .i64 (i : Nat), u 9, u 10, u 11, u 12, u 13, u 14, u 15, u 16, u 17, u 18, u 19, u 20, u 21, u 22, u 23, u 24, u 25, u 26, u 27, u 28, u 29, u 30, u 31, u 32, u 33, u 34, u 35, u 36, u 37, u 38, u 39, u 40, u 41, u 42, u 43, u 44, u 45, u 46, u 47, u 48, u 49, u 50, u 51, u 52, u 53, u 54, u 55, u 56, u 57, u 58, u 59, u 60, u 61, u 62, u 63, u 64, u 65, u 66, u 67, u 68, u 69, u 70, u 71, u 72, u 73, u 74, u 75, u 76], defers := [] }

set_option maxRecDepth 100000 in
set_option maxHeartbeats 3200000 in
theorem hash_any (key text : ByteArray) (hk : key.size = 40) (ht : text.size = 12) (w : World) : Calls Try.prog 24 #[.string key, .string text] w fun e w' => e = .returned (.tuple #[.int .u32 (hs key text 96).2, .int .i64 0]) ∧ ∃ n, w' = w.drewN n := by
  have Hk := Lib.hid hk
  have Ht := Lib.hid ht
  have k1 : (((key.size : Nat) : Int) != 40) = false := by simp [hk]
  have k2 : decide ((36 : Int) < ((text.size : Nat) : Int)) = false := by simp [ht]
  have k30 : 0 < key.size := by omega
  have k31 : 1 < key.size := by omega
  have k32 : 2 < key.size := by omega
  have k33 : 3 < key.size := by omega
  have k41 : (1 : Int) < (key.size : Int) := by omega
  have k42 : (2 : Int) < (key.size : Int) := by omega
  have k43 : (3 : Int) < (key.size : Int) := by omega
  clear hk ht
  go_enter Try.func24, Try.ntmps24
  go_wp2
  refine wp_scope_jumps 0 (fun a' w' => (∃ n, w' = w.drewN n) ∧ ∃ i, i ≤ 96 ∧ a' = hframe key text i (hs key text i).1 (hs key text i).2 (fun k => a'.tmps.getD k undef)) (fun a' _ => 96 - (intOf (a'.tmps.getD 8 undef)).toNat) rfl ?_ ?_
  · go_wp2
    go_quiet (fail)
    have e0 : bits BinOp.or IntKind.u32 (bits BinOp.or IntKind.u32 (bits BinOp.or IntKind.u32 (((key[0]'k30).toNat : Int) % 4294967296 * 16777216 % 4294967296) (((key[1]'k31).toNat : Int) % 4294967296 * 65536 % 4294967296)) (((key[2]'k32).toNat : Int) % 4294967296 * 256 % 4294967296)) (((key[3]'k33).toNat : Int) % 4294967296) = hwin0 key := by
      simp only [hwin0, byteAt_eq]
    have ht2 : text.size = 12 := Ht.out
    have hk2 : key.size = 40 := Hk.out
    have hq1 : 0 < text.size := by omega
    have e1 : ((0:Int) == 8 * ((text.size:Nat):Int)) = false := by rw [ht2]; rfl
    have b5 : (text.size : Int) ≤ 12 := by omega
    have b6 : (4:Int) < ((key.size:Nat):Int) := by omega
    have hb2 : 4 < key.size := by omega
    have n1 : (hs key text 1).1 = bits BinOp.or IntKind.u32 (hwin0 key * 2 % 4294967296) (bits BinOp.and IntKind.u32 (((key[4]'hb2).toNat : Int) / 128 % 4294967296) 1) := by
      simp [hs, hwin, byteAt_eq]
    by_cases hbt : (bits .and .u8 (((text[0]'hq1).toNat : Int) / 128) 1 == 1) = true
    · have n2 : (hs key text 1).2 = bits .xor .u32 0 (hwin0 key) := by
        have : hbit text 0 = true := by simpa [hbit, byteAt_eq] using hbt
        simp [hs, this]
      have N1 := Lib.hid n1
      have N2 := Lib.hid n2
      clear n1 n2 ht2 hk2
      generalize hwin0 key = win at *
      go_wp2
      rw [e0]
      clear e0
      go_step3
      go_wp2
      go_step3
      refine ⟨rfl, ⟨nq, rfl⟩, 1, by omega, ?_⟩
      rw [N1.out, N2.out]
      rfl
    · have hbt2 : (bits .and .u8 (((text[0]'hq1).toNat : Int) / 128) 1 == 1) = false := by simpa using hbt
      have n2 : (hs key text 1).2 = 0 := by
        have : hbit text 0 = false := by simpa [hbit, byteAt_eq] using hbt2
        simp [hs, this]
      have N1 := Lib.hid n1
      have N2 := Lib.hid n2
      clear n1 n2 ht2 hk2 hbt
      generalize hwin0 key = win at *
      go_wp2
      rw [e0]
      clear e0
      go_step3
      go_wp2
      go_step3
      refine ⟨rfl, ⟨nq, rfl⟩, 1, by omega, ?_⟩
      rw [N1.out, N2.out]
      rfl
  · rintro a' w' ⟨⟨n, rfl⟩, i, hi, ha⟩
    generalize (fun k => a'.tmps.getD k undef) = u at ha
    subst ha
    have ht2 : text.size = 12 := Ht.out
    have hk2 : key.size = 40 := Hk.out
    clear k30 k31 k32 k33 k41 k42 k43
    generalize hp : hs key text i = p
    obtain ⟨win, hash⟩ := p
    have Hp := Lib.hid hp
    clear hp
    unfold hframe
    by_cases hlt : i < 96
    · obtain ⟨q, hq⟩ : ∃ q, q = i / 8 := ⟨_, rfl⟩
      obtain ⟨r, hr⟩ : ∃ r, r = i % 8 := ⟨_, rfl⟩
      have hqi : (i : Int) / 8 = (q : Int) := by omega
      have hri : (i : Int) % 8 = (r : Int) := by omega
      have hq1 : q < text.size := by omega
      have hq2 : (q : Int) < (text.size : Int) := by omega
      have hq3 : (q : Int) ≤ 11 := by omega
      have hr3 : (r : Int) ≤ 7 := by omega
      have e1 : (((i:Nat):Int) == 8 * ((text.size:Nat):Int)) = false := by rw [ht2]; simp; omega
      have b6 : ((q:Int) + 4) < ((key.size:Nat):Int) := by rw [hk2]; omega
      have b5 : (text.size : Int) ≤ 12 := by omega
      have hb2 : q + 4 < key.size := by omega
      have Hq := Lib.hid hq
      have Hr := Lib.hid hr
      clear ht2 hk2 hq hr
      by_cases hbt : (bits .and .u8 (((text[q]'hq1).toNat : Int) / 2 ^ (7 - r)) 1 == 1) = true
      · have n1 : (hs key text (i + 1)).1 = bits BinOp.or IntKind.u32 (win * 2 % 4294967296) (bits BinOp.and IntKind.u32 (↑(key[q + 4]'hb2).toNat / 2 ^ (7 - r) % 4294967296) 1) := by
          simp only [hs, hwin, Hp.out, byteAt_eq, ← Hq.out, ← Hr.out]
        have n2 : (hs key text (i + 1)).2 = bits BinOp.xor IntKind.u32 hash win := by
          have : hbit text i = true := by simpa only [hbit, byteAt_eq, ← Hq.out, ← Hr.out] using hbt
          simp only [hs, Hp.out, this, if_true]
        have N1 := Lib.hid n1
        have N2 := Lib.hid n2
        clear n1 n2
        go_wp2
        go_step3
        refine ⟨rfl, ⟨⟨n, rfl⟩, i + 1, by omega, ?_⟩, ?_⟩
        · rw [N1.out, N2.out]
          rfl
        · simp [intOf]; omega
      · have hbt2 : (bits .and .u8 (((text[q]'hq1).toNat : Int) / 2 ^ (7 - r)) 1 == 1) = false := by simpa using hbt
        clear hbt
        have n1 : (hs key text (i + 1)).1 = bits BinOp.or IntKind.u32 (win * 2 % 4294967296) (bits BinOp.and IntKind.u32 (↑(key[q + 4]'hb2).toNat / 2 ^ (7 - r) % 4294967296) 1) := by
          simp only [hs, hwin, Hp.out, byteAt_eq, ← Hq.out, ← Hr.out]
        have n2 : (hs key text (i + 1)).2 = hash := by
          have : hbit text i = false := by simpa only [hbit, byteAt_eq, ← Hq.out, ← Hr.out] using hbt2
          simp [hs, Hp.out, this]
        have N1 := Lib.hid n1
        have N2 := Lib.hid n2
        clear n1 n2
        go_wp2
        go_step3
        refine ⟨rfl, ⟨⟨n, rfl⟩, i + 1, by omega, ?_⟩, ?_⟩
        · rw [N1.out, N2.out]
          rfl
        · simp [intOf]; omega
    · obtain rfl : i = 96 := by omega
      have e1 : ((96:Int) == 8 * ((text.size:Nat):Int)) = true := by rw [ht2]; rfl
      have b5 : (text.size : Int) ≤ 12 := by omega
      clear ht2 hk2
      go_wp2
      simp only [Exit.jump]
      go_ret2
      exact ⟨by rw [Hp.out]; rfl, n, rfl⟩
end Go.Proofs.Ytmphajjaepahkaa
