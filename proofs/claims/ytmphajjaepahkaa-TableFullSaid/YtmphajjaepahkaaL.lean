/-
  The methods of a nil table; Conns and Rests. Part of the proof of TableFull. No condition beyond the theorems' own hypotheses.
-/
import Derived.Test.YtmphajjaepahkaaF
namespace Go.Proofs.Ytmphajjaepahkaa
open Go.RowKit Go.Maps

theorem put_nil (i1 p1 i2 p2 sk : Int) (w : World) : Calls Try.prog 5 #[.pointer none, .agg #[.int .u32 i1, .int .u16 p1, .int .u32 i2, .int .u16 p2], .int .u64 sk] w fun e w' => e = .returned (.int .i64 1) ∧ Below w.heap.size w w' := by
  go_enter Try.func5, Try.ntmps5
  go_wp2_with (go_at_call 15; refine (made_nil _).mono ?_; rintro e w' ⟨rfl, rfl⟩)
  go_ret
  exact ⟨rfl, by go_grown⟩
theorem rest_nil (i1 p1 i2 p2 u : Int) (w : World) : Calls Try.prog 7 #[.pointer none, .agg #[.int .u32 i1, .int .u16 p1, .int .u32 i2, .int .u16 p2], .int .i64 u] w fun e w' => e = .returned (.int .i64 1) ∧ Below w.heap.size w w' := by
  go_enter Try.func7, Try.ntmps7
  go_wp2_with (go_at_call 15; refine (made_nil _).mono ?_; rintro e w' ⟨rfl, rfl⟩)
  go_ret
  exact ⟨rfl, by go_grown⟩
theorem conns_nil (w : World) : Calls Try.prog 8 #[.pointer none] w fun e w' => e = .returned (.int .i64 0) ∧ Below w.heap.size w w' := by
  go_enter Try.func8, Try.ntmps8
  go_wp2
  go_ret
  exact ⟨rfl, by go_grown⟩
theorem rests_nil (w : World) : Calls Try.prog 9 #[.pointer none] w fun e w' => e = .returned (.int .i64 0) ∧ Below w.heap.size w w' := by
  go_enter Try.func9, Try.ntmps9
  go_wp2
  go_ret
  exact ⟨rfl, by go_grown⟩
theorem old_nil (u : Int) (w : World) : Calls Try.prog 10 #[.pointer none, .int .i64 u] w fun e w' => e = .returned (.int .i64 0) ∧ Below w.heap.size w w' := by
  go_enter Try.func10, Try.ntmps10
  go_wp2_with (go_at_call 15; refine (made_nil _).mono ?_; rintro e w' ⟨rfl, rfl⟩)
  go_ret
  exact ⟨rfl, by go_grown⟩
theorem find_nil (i1 p1 i2 p2 h u : Int) (w : World) : Calls Try.prog 11 #[.pointer none, .agg #[.int .u32 i1, .int .u16 p1, .int .u32 i2, .int .u16 p2], .int .u32 h, .int .i64 u] w fun e w' => e = .returned (.tuple #[.int .u8 0, .int .u64 0]) ∧ Below w.heap.size w w' := by
  go_enter Try.func11, Try.ntmps11
  go_wp2_with (go_at_call 15; refine (made_nil _).mono ?_; rintro e w' ⟨rfl, rfl⟩)
  go_ret2
  exact ⟨rfl, by go_grown⟩
theorem listen_nil (s i p : Int) (w : World) : Calls Try.prog 12 #[.pointer none, .int .u64 s, .agg #[.int .u32 i, .int .u16 p]] w fun e w' => e = .returned (.int .i64 1) ∧ Below w.heap.size w w' := by
  go_enter Try.func12, Try.ntmps12
  go_wp2_with (go_at_call 15; refine (made_nil _).mono ?_; rintro e w' ⟨rfl, rfl⟩)
  go_ret
  exact ⟨rfl, by go_grown⟩
theorem deaf_nil (l : Value) (w : World) : Calls Try.prog 13 #[.pointer none, l] w fun e w' => e = .returned (.int .i64 0) ∧ Below w.heap.size w w' := by
  go_enter Try.func13, Try.ntmps13
  go_wp2_with (go_at_call 15; refine (made_nil _).mono ?_; rintro e w' ⟨rfl, rfl⟩)
  go_ret
  exact ⟨rfl, by go_grown⟩
theorem conns_any (b : Nat) (n : Int) (w : World) (h : w.cell? ⟨b, 9, none⟩ = some (.int .i64 n)) : Calls Try.prog 8 #[.pointer (some ⟨b, 0, none⟩)] w fun e w' => e = .returned (.int .i64 n) ∧ Below w.heap.size w w' := by
  go_enter Try.func8, Try.ntmps8
  go_wp2
  go_ret
  exact ⟨rfl, by go_grown⟩
theorem rests_any (b : Nat) (n : Int) (w : World) (h : w.cell? ⟨b, 10, none⟩ = some (.int .i64 n)) : Calls Try.prog 9 #[.pointer (some ⟨b, 0, none⟩)] w fun e w' => e = .returned (.int .i64 n) ∧ Below w.heap.size w w' := by
  go_enter Try.func9, Try.ntmps9
  go_wp2
  go_ret
  exact ⟨rfl, by go_grown⟩
end Go.Proofs.Ytmphajjaepahkaa
