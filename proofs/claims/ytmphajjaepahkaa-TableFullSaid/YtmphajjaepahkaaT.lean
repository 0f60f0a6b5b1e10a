/-
  The law's works returns true. Part of the proof of TableFull. No condition beyond the theorems' own hypotheses.
-/
import Derived.Test.YtmphajjaepahkaaP
import Derived.Test.YtmphajjaepahkaaR
import Derived.Test.YtmphajjaepahkaaS
namespace Go.Proofs.Ytmphajjaepahkaa
open Go.RowKit Go.Maps

def P4 (bx : Nat) (W : World) : Prop := W.cell? ⟨bx, 0, none⟩ = some (.int .u32 1) ∧ W.cell? ⟨bx, 1, none⟩ = some (.int .u16 80) ∧ W.cell? ⟨bx, 2, none⟩ = some (.int .u32 2) ∧ W.cell? ⟨bx, 3, none⟩ = some (.int .u16 5)
theorem P4.tf {b bx : Nat} {W W' : World} (h : P4 bx W) (hF : TF b W W') (hb : b + 10 ≤ bx) : P4 bx W' := by
  obtain ⟨h0, h1, h2, h3⟩ := h
  have hl := World.block_lt_of_cell? _ _ h0
  have e := hF.block bx hl (.inr hb)
  exact ⟨(World.cell?_of_block e).trans h0, (World.cell?_of_block e).trans h1, (World.cell?_of_block e).trans h2, (World.cell?_of_block e).trans h3⟩

theorem TF.toBelow {b : Nat} {W W' : World} (h : TF b W W') (hb : b ≤ W.heap.size) : Below b W W' := ⟨h.os, h.tape, h.output, h.size, fun k hk => h.block k (Nat.lt_of_lt_of_le hk hb) (.inl hk)⟩

def k5 : Lit := .int .u64 5
theorem key5 : keyOf Try.prog 33 (.int .u64 5) = some k5 := keyOf_int_mk Try.underlying33 (by decide)
def kp : Lit := keyP 80 5
theorem keykp : keyOf Try.prog 31 (.agg #[.int .u32 1, .int .u16 80, .int .u32 2, .int .u16 5]) = some kp := key_pv 80 5 (by decide) (by decide) (by decide) (by decide)
def s0 : Nat := shN 1 80 2 5
theorem s0_lt : s0 < 8 := shN_lt _ _ _ _
def D1 : Nat → DV := fun _ => .map []
def D2 : Nat → DV := upd D1 s0 ((D1 s0).put kp (.held (.agg #[.int .u64 9, .int .i64 0])))
def D3 : Nat → DV := upd D2 s0 ((D2 s0).put kp (.held (.agg #[.int .u64 0, .int .i64 100])))
theorem D1_no : Maps.has (D1 s0) kp = false := rfl
theorem D2_at (z : DV) : (D2 s0).atKey kp z = .held (.agg #[.int .u64 9, .int .i64 0]) := by
  unfold D2 upd
  rw [if_pos rfl]
  exact atKey_put_same isMap_empty (law31.key keykp) _ _
theorem D2_eq : D2 s0 = .map [(kp, .held (.agg #[.int .u64 9, .int .i64 0]))] := by
  unfold D2 upd
  rw [if_pos rfl]
  rfl
theorem D3_at (z : DV) : (D3 s0).atKey kp z = .held (.agg #[.int .u64 0, .int .i64 100]) := by
  unfold D3 upd
  rw [if_pos rfl, D2_eq]
  exact atKey_put_same ⟨_, rfl⟩ (law31.key keykp) _ _
def es3 (j : Nat) : List (Lit × DV) := if j = s0 then [(kp, .held (.agg #[.int .u64 0, .int .i64 100]))] else []
set_option maxRecDepth 20000 in
theorem D3_eq : D3 = fun j => .map (es3 j) := by
  funext j
  unfold es3
  by_cases e : j = s0
  · subst e
    simp only [if_true]
    unfold D3 upd
    rw [if_pos rfl, D2_eq]
    simp [DataW.put, WideAt.sameKey_self (law31.key keykp), DataW.insert]
  · simp only [if_neg e]
    simp [D3, D2, upd, e, D1]
theorem es3_shaped (s : Nat) : Shaped (es3 s) := by
  intro p hp
  unfold es3 at hp
  by_cases e : s = s0
  · simp only [if_pos e] at hp
    obtain rfl := List.mem_singleton.1 hp
    exact ⟨⟨1, 80, 2, 5, keykp⟩, _, _, rfl⟩
  · simp [e] at hp
theorem es3_sum : sumTo (fun s => (es3 s).countP (fun p => expired 100 p.1 p.2)) 8 = 1 := by
  have h := sumTo_upd (fun _ => 0) s0 1 8
  rw [if_pos s0_lt] at h
  refine Eq.trans (sumTo_congr _ _ (fun j => ?_) 8) h
  unfold es3
  by_cases e : j = s0
  · simp [e, expired]
  · simp [e]

set_option maxHeartbeats 6400000 in
set_option maxRecDepth 20000 in
theorem works_any (w : World) : Calls Try.prog 14 #[] w fun e w' => e = .returned (.bool true) ∧ Below w.heap.size w w' := by
  go_enter Try.func14, Try.ntmps14
  go_wp2_with (first
    | (go_at_call 10; refine (old_any 3 w.heap.size 100 0 1 es3 _ _ (D3_eq ▸ HT10.out) (fun s _ => es3_shaped s) _ (fun _ => rfl) (by rw [es3_sum]; omega) (by omega)).mono ?_; rintro e w11 ⟨rfl, hF11⟩
       rw [es3_sum]
       have HF11 := Lib.hid (HF10.out.trans hF11)
       clear hF11)
    | (go_at_call 11; refine (find_lis 3 w.heap.size D3 _ 0 1 _ HT9.out 1 80 2 5 (by omega) (by omega) (by omega) (by omega) (by omega) (by omega) (by omega) (by omega) true 0 100 (looks_yes keykp D3_at) 100 5 k5 key5 (by omega) rfl (.inr ⟨rfl, rfl, by omega⟩)).mono ?_; rintro e w10 ⟨rfl, hT10, hF10⟩
       have q10 := HQ9.out.tf (TF.of_below hF10) hbx
       have HQ10 := Lib.hid q10
       have HT10 := Lib.hid hT10
       have HF10 := Lib.hid (HF9.out.trans (TF.of_below hF10))
       obtain ⟨c100, c101, c102, c103⟩ := q10
       clear hT10 hF10)
    | (go_at_call 11; refine (find_any 3 w.heap.size D3 _ 0 1 _ HT8.out 1 80 2 5 (by omega) (by omega) (by omega) (by omega) (by omega) (by omega) (by omega) (by omega) true 0 100 (looks_yes keykp D3_at) 0 99 3 0 (.inr ⟨rfl, rfl, by omega, rfl, rfl⟩)).mono ?_; rintro e w9 ⟨rfl, hT9, hF9⟩
       have q9 := HQ8.out.tf (TF.of_below hF9) hbx
       have HQ9 := Lib.hid q9
       have HT9 := Lib.hid hT9
       have HF9 := Lib.hid (HF8.out.trans (TF.of_below hF9))
       obtain ⟨c90, c91, c92, c93⟩ := q9
       clear hT9 hF9)
    | (go_at_call 7; refine (rest_conn 2 w.heap.size (by omega) D2 _ 1 0 _ HT7.out (by omega) (by omega) (by omega) (by omega) 100 9 0 (by omega) 1 80 2 5 (by omega) (by omega) (by omega) (by omega) (by omega) (by omega) (by omega) (by omega) kp keykp D2_at).mono ?_; rintro e w8 ⟨rfl, hT8, hF8⟩
       have q8 := HQ7.out.tf hF8 hbx
       have HQ8 := Lib.hid q8
       have HT8 := Lib.hid hT8
       have HF8 := Lib.hid (HF7.out.trans hF8)
       obtain ⟨c80, c81, c82, c83⟩ := q8
       clear hT8 hF8)
    | (go_at_call 11; refine (find_any 2 w.heap.size D2 _ 1 0 _ HT6.out 1 80 2 5 (by omega) (by omega) (by omega) (by omega) (by omega) (by omega) (by omega) (by omega) true 9 0 (looks_yes keykp D2_at) 0 0 1 9 (.inl ⟨rfl, by omega, rfl, rfl⟩)).mono ?_; rintro e w7 ⟨rfl, hT7, hF7⟩
       have q7 := HQ6.out.tf (TF.of_below hF7) hbx
       have HQ7 := Lib.hid q7
       have HT7 := Lib.hid hT7
       have HF7 := Lib.hid (HF6.out.trans (TF.of_below hF7))
       obtain ⟨c70, c71, c72, c73⟩ := q7
       clear hT7 hF7)
    | (go_at_call 5; refine (put_new 1 w.heap.size (by omega) D1 _ 0 0 _ HT5.out (by omega) (by omega) 9 (by omega) 1 80 2 5 (by omega) (by omega) (by omega) (by omega) (by omega) (by omega) (by omega) (by omega) kp keykp D1_no).mono ?_; rintro e w6 ⟨rfl, hT6, hF6⟩
       have q6 := HQ5.out.tf hF6 hbx
       have HQ6 := Lib.hid q6
       have HT6 := Lib.hid hT6
       have HF6 := Lib.hid (HF5.out.trans hF6)
       obtain ⟨c60, c61, c62, c63⟩ := q6
       clear hT6 hF6)
    | (go_at_call 11; refine (find_lis 1 w.heap.size D1 _ 0 0 _ HT4.out 1 80 2 5 (by omega) (by omega) (by omega) (by omega) (by omega) (by omega) (by omega) (by omega) false 0 0 (looks_no keykp D1_no) 0 5 k5 key5 (by omega) rfl (.inl rfl)).mono ?_; rintro e w5 ⟨rfl, hT5, hF5⟩
       have q5 := HQ4.out.tf (TF.of_below hF5) hbx
       have HQ5 := Lib.hid q5
       have HT5 := Lib.hid hT5
       have HF5 := Lib.hid (HF4.out.trans (TF.of_below hF5))
       obtain ⟨c50, c51, c52, c53⟩ := q5
       clear hT5 hF5)
    | (go_at_call 12; refine (listen_new 0 w.heap.size (by omega) D1 0 0 _ HT3.out 5 (by omega) k5 key5 0 80).mono ?_; rintro e w4 ⟨rfl, hT4, hF4⟩
       have q4 := HQ3.out.tf hF4 hbx
       have HQ4 := Lib.hid q4
       have HT4 := Lib.hid hT4
       have HF4 := Lib.hid (HF3.out.trans hF4)
       obtain ⟨c40, c41, c42, c43⟩ := q4
       clear hT4 hF4)
    | (go_at_call 6; refine (pair_any 80 5 _).mono ?_; rintro e w2 ⟨rfl, hb2⟩
       have hT2 := HT1.out.kept hb2
       have HT2 := Lib.hid hT2
       have hT3 := hT2.kept ((Below.refl _ _).alloc (Nat.le_refl _) (.cells #[.int .u32 1, .int .u16 80, .int .u32 2, .int .u16 5] 31))
       have HT3 := Lib.hid hT3
       have HB2 := Lib.hid (HB1.out.trans (hb2.mono HB1.out.size))
       have HF3 := Lib.hid (TF.refl w.heap.size (w2.alloc (.cells #[.int .u32 1, .int .u16 80, .int .u32 2, .int .u16 5] 31 (0, 0))))
       have hbx : w.heap.size + 10 ≤ w2.heap.size := by have := (hT2.shards 7 (by omega)).lt; omega
       have HQ3 : Hid (P4 w2.heap.size (w2.alloc (.cells #[.int .u32 1, .int .u16 80, .int .u32 2, .int .u16 5] 31 (0, 0)))) := Lib.hid ⟨by simp, by simp, by simp, by simp⟩
       clear hT2 hb2 hT3)
    | (go_at_call 4; refine (new_tab _).mono ?_; rintro e w1 ⟨rfl, hT1, hb1⟩; have HT1 := Lib.hid hT1; have HB1 := Lib.hid hb1; clear hT1 hb1))
  go_ret
  have h0 : Below w.heap.size w (w2.alloc (.cells #[.int .u32 1, .int .u16 80, .int .u32 2, .int .u16 5] 31 (0, 0))) := HB2.out.alloc HB2.out.size _
  exact ⟨rfl, h0.trans (HF11.out.toBelow (by have := h0.size; exact this))⟩
end Go.Proofs.Ytmphajjaepahkaa
