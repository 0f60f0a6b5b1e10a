/-
  Keys of the program's two kinds of maps. Part of the proof of TableFull. No condition beyond the theorems' own hypotheses.
-/
import Derived.Test.YtmphajjaepahkaaProg
import Derived.Test.YtmphajjaepahkaaBase
import Derived.Maps.OwnSet
import Derived.DeepKeys4
import Derived.OpenShut
namespace Go.Proofs.Ytmphajjaepahkaa
open Go.RowKit

theorem law31 : Maps.Keyed Try.prog 31 := Maps.Keyed.of_law (deep_law_laid (m := 3) (by kernel_rfl) (by decide) (of_decide_eq_true (by kernel_rfl)) (by kernel_rfl) (by kernel_rfl))
theorem law33 : Maps.Keyed Try.prog 33 := Maps.int_keyed Try.underlying33
theorem keyType31 : Try.prog.keyType 31 = true := by kernel_rfl
theorem cells31 : Try.prog.cellsOf 31 = 4 := by kernel_rfl
theorem cells29 : Try.prog.cellsOf 29 = 2 := by kernel_rfl
theorem cells27 : Try.prog.cellsOf 27 = 1 := by kernel_rfl
theorem cells22 : Try.prog.cellsOf 22 = 1 := by kernel_rfl
theorem lits31 (n : Nat) (a b c d : Int) (ha : (Lit.int .u32 a).wf = true) (hb : (Lit.int .u16 b).wf = true) (hc : (Lit.int .u32 c).wf = true) (hd : (Lit.int .u16 d).wf = true) :
   Try.prog.keyLits (n + 3) 31 [.int .u32 a, .int .u16 b, .int .u32 c, .int .u16 d] = some [.int .u32 a, .int .u16 b, .int .u32 c, .int .u16 d] := by
  simp [Program.keyLits, Try.underlying31, Try.underlying29, Try.underlying27, Try.underlying22, ha, hb, hc, hd, cells31, cells29, cells27, cells22]
  rw [if_pos (by decide)]
  simp only [Option.bind_some, Function.comp]
  rw [if_pos (by decide)]
  rfl
theorem types_size : Try.prog.types.size + 1 = 124 + 3 := by kernel_rfl
theorem key31 (a b c d : Int) (ha : (Lit.int .u32 a).wf = true) (hb : (Lit.int .u16 b).wf = true) (hc : (Lit.int .u32 c).wf = true) (hd : (Lit.int .u16 d).wf = true) :
   keyOf Try.prog 31 (.agg #[.int .u32 a, .int .u16 b, .int .u32 c, .int .u16 d]) = some (.string (keyBytes [.int .u32 a, .int .u16 b, .int .u32 c, .int .u16 d])) := by
  unfold keyOf
  rw [Try.underlying31]
  simp only [keyType31, types_size]
  have e : Value.formed Try.prog 31 (.agg #[.int .u32 a, .int .u16 b, .int .u32 c, .int .u16 d]) = true := by simp [Value.formed, Try.underlying31, cells31]
  simp only [e]
  rw [show (Value.agg #[.int .u32 a, .int .u16 b, .int .u32 c, .int .u16 d]).cells.toList = [.int .u32 a, .int .u16 b, .int .u32 c, .int .u16 d] from rfl, lits31 _ a b c d ha hb hc hd]
  rfl
end Go.Proofs.Ytmphajjaepahkaa
