/-
  maps.Keys, slices.Collect, slices.Sorted over a map with one entry. After the guide's worked examples GgKeysAtTheDump and GgPosAtTheDump. Part of the proof of TableFull. No condition beyond the theorems' own hypotheses.
-/
import Derived.Test.YtmphajjaepahkaaM
import Derived.RangeFuncBox
import Derived.RangeFuncLeaves
import Derived.RangeFuncSeq
import Derived.Sort.MapsRangeIn
import Derived.OwnWalkIn
import Derived.TacticsInMore
import Derived.RegionIn
import Derived.LoopNIn
import Derived.LoopIn
import Derived.Maps.AppendAt
import Derived.WalkKit
namespace Go.Proofs.Ytmphajjaepahkaa
open Go.RowKit Go.Maps

attribute [local go_sem] Oper.semAt_some

/-- A map with one entry. -/
def one (kl : Lit) (v : Value) : DV := .map [(kl, .held v)]
theorem one_has {kl kl' : Lit} {v : Value} (h : Maps.has (one kl v) kl' = true) : kl = kl' := by
  have : ([(kl, (DataW.held v : DV))].any fun p => p.1.sameKey kl') = true := h
  simp at this
  exact WideAt.sameKey_eq this
theorem one_self {kl : Lit} {v : Value} (hk : WideAt.IsKeyLit kl) : Maps.has (one kl v) kl = true := by
  have : ([(kl, (DataW.held v : DV))].any fun p => p.1.sameKey kl) = true := by simp [WideAt.sameKey_self hk]
  exact this

set_option maxRecDepth 100000 in
set_option maxHeartbeats 1000000 in
/-- The iterator over the keys of a map with one entry. -/
theorem keys1 (F : Fence) (n : Nat) (h34 : F.fn 34) (hro : F.round = none) (hn : 1 ≤ n) (l Bm b nn : Nat) (x0 : Int) (kl : Lit) (hkl : keyOf Try.prog 33 (.int .u64 x0) = some kl) (v0 : Value) (J Jx : List Int → World → Prop)
    (hY : ∀ pre x W, J pre W → pre.length < 1 → YieldAt F (n - 1) Try.prog l #[.int .u64 x] W fun e W' =>
      (e = .returned (.bool true) ∧ J (pre ++ [x]) W' ∧ KeepsWalks W W') ∨ (e = .returned (.bool false) ∧ Jx (pre ++ [x]) W'))
    (W : World) (hJ : AbidesFrom W.heap.size J) (hm : W.cell? ⟨Bm, 0, none⟩ = some (.map (some b))) (hown : W.ownsMap Try.prog 33 RH b nn (one kl v0)) (h0 : J [] W) :
    CallsIn F n Try.prog 34 #[.func (.yield l) #[] #[], .pointer (some ⟨Bm, 0, none⟩)] W fun e W' => (∃ v, e = .returned v) ∧ ((∃ ys, ys = [x0] ∧ J ys W') ∨ (∃ pre, True ∧ Jx pre W')) := by
  have hklit := law33.key hkl
  refine callsIn_of_wp Try.func34 rfl h34 ?_ hro
  simp only [Try.ntmps34, List.size_toArray, List.length_cons, List.length_nil, Nat.reduceAdd, Nat.reduceSub, Array.replicate_succ, Array.replicate_zero, List.push_toArray, List.append_toArray, List.nil_append, List.cons_append]
  gi_wp2_with (first
    | (gi_at_range; refine wpListIn_range_own _ rfl _ 43 rfl 33 29 law33 Try.underlying43 _ b nn _ rfl hown ?_; intro w0 hrg0 hg0 hs0)
    | gi_in)
  go_frame
  gi_loopw [6] (fun _ wr => ∃ (left : Lit → Bool) (cnt : Nat) (ss : List Int), wr.ranges Try.prog 33 RH b W.heap.size nn (one kl v0) left cnt ∧ ((ss = [] ∧ left = Maps.has (one kl v0)) ∨ (ss = [x0] ∧ ∀ z, left z = false)) ∧ J ss wr)
    (fun _ wr => wr.rangeLeft b W.heap.size)
  case atStart =>
    exact ⟨_, _, [], hrg0, .inl ⟨rfl, rfl⟩, hJ [] W w0 none h0 hg0 (fun r e => by cases e)⟩
  case round =>
    obtain ⟨left, cnt, ss, hrg, hC, hJs⟩ := hrel
    gi_wp2_with (first
      | (gi_at_next; refine wpListIn_next_ranges _ rfl _ rfl 33 law33 RH (fun x : Int => .int .u64 x) id (fun key kl hk => by obtain ⟨x, hx, _⟩ := Maps.keyOf_int_inv Try.underlying33 hk; exact ⟨x, hx⟩) (fun v _ _ => ⟨v, rfl⟩) b W.heap.size nn _ _ _ rfl hrg ?_ ?_)
      | gi_in)
    · intro hc0 hl0
      rcases hC with ⟨rfl, rfl⟩ | ⟨rfl, -⟩
      · exact absurd (one_self hklit) (by rw [hl0]; simp)
      · gi_wp2
        go_end0
        exact ⟨⟨_, rfl⟩, .inl ⟨_, rfl, hJs⟩⟩
    · intro x c kl' yd yp w2 cnt2 hkey hlk hv hat hrg2 hlt hg2 hs2 hen
      rcases hC with ⟨rfl, rfl⟩ | ⟨rfl, hf⟩
      · obtain rfl := one_has hlk
        have hx : (Value.int .u64 x) = .int .u64 x0 := law33.inj hkey hkl
        obtain rfl : x = x0 := by simpa using hx
        have hJ2 : J [] w2 := hJ [] wr w2 (some W.heap.size) hJs hg2 (fun r e => by cases e; exact ⟨Nat.le_refl _, hrg.iter_walk⟩)
        obtain ⟨fn, tmps, assign, body, hy, hR⟩ := hY [] x w2 hJ2 (by simp)
        clear hs2
        gi_wp2
        refine hR.mono ?_
        rintro e W3 (⟨rfl, hJ3, hk3⟩ | ⟨rfl, hJx3⟩)
        · gi_wp2
          have hrg3 := hrg2.of_walks hk3
          go_roundw
          case rel => exact ⟨_, cnt2, [] ++ [x], hrg3, .inr ⟨rfl, fun z => by
            cases h : Maps.has (one kl v0) z
            · rfl
            · obtain rfl := one_has h
              simp [WideAt.sameKey_self hklit]⟩, hJ3⟩
          case measure => rw [hrg3.left_eq, hrg.left_eq]; exact hlt
        · gi_wp2
          refine bodyPost_ret (results_none rfl _ _ _) rfl ?_
          exact ⟨⟨_, rfl⟩, .inr ⟨_, trivial, hJx3⟩⟩
      · rw [hf] at hlk; cases hlk

/-- maps.Keys. -/
theorem keys_in (F : Fence) (n : Nat) (h23 : F.fn 23) (hro : F.round = none) (mb : Option Nat) (w : World) :
    CallsIn F n Try.prog 23 #[.map mb] w fun e w' => e = .returned (.func (.func 34) #[] #[.pointer (some ⟨w.heap.size, 0, none⟩)]) ∧ w' = w.alloc (.cells #[.map mb] 43) := by
  refine callsIn_of_wp Try.func23 rfl h23 ?_ hro
  simp only [Try.ntmps23, List.size_toArray, List.length_cons, List.length_nil, Nat.reduceAdd, Nat.reduceSub, Array.replicate_succ, Array.replicate_zero, List.push_toArray, List.append_toArray, List.nil_append, List.cons_append]
  gi_wp2
  go_ret
  exact ⟨rfl, rfl⟩
theorem keys_stops (F : Fence) (n : Nat) (h34 : F.fn 34) (hro : F.round = none) (hn : 1 ≤ n) (Bm b nn : Nat) (x0 : Int) (kl : Lit) (hkl : keyOf Try.prog 33 (.int .u64 x0) = some kl) (v0 : Value) (w : World) (hBm : Bm < w.heap.size)
    (hm : w.cell? ⟨Bm, 0, none⟩ = some (.map (some b))) (hown : w.ownsMap Try.prog 33 RH b nn (one kl v0)) :
    SeqStopsK F n Try.prog 34 #[.pointer (some ⟨Bm, 0, none⟩)] (fun x : Int => #[Value.int .u64 x]) KeepsWalks (fun ys => ys = [x0]) (fun _ => True) 1 w := fun l J Jx W hW hJ _ hY h0 => by
  have hown' : W.ownsMap Try.prog 33 RH b nn (one kl v0) := by
    have hbl := hown.lt
    obtain ⟨es, clock, hb, Ft, hs, hD⟩ := hown
    exact ⟨es, clock, (hW.block b hbl).trans hb, Ft, hs, hD⟩
  exact keys1 F n h34 hro hn l Bm b nn x0 kl hkl v0 J Jx hY W hJ ((hW.cell (p := ⟨Bm, 0, none⟩) hBm).trans hm) hown' h0

theorem info33 : (Try.prog.info? 33).map (fun i => (i.zero, i.size, i.bytes)) = some (some (.int .u64 0), 1, 8) := by kernel_rfl

set_option maxRecDepth 100000 in
set_option maxHeartbeats 2000000 in
/-- slices.AppendSeq(nil, seq), of an iterator that gives one number. -/
theorem append_in (F : Fence) (n : Nat) (h40 : F.fn 40) (h34 : F.fn 34) (hro : F.round = none) (hn : 3 ≤ n) (Bm b nn : Nat) (x0 : Int) (kl : Lit) (hkl : keyOf Try.prog 33 (.int .u64 x0) = some kl) (v0 : Value) (w : World) (hBm : Bm < w.heap.size)
    (hm : w.cell? ⟨Bm, 0, none⟩ = some (.map (some b))) (hown : w.ownsMap Try.prog 33 RH b nn (one kl v0)) :
    CallsIn F n Try.prog 40 #[.slice none 0 0, .func (.func 34) #[] #[.pointer (some ⟨Bm, 0, none⟩)]] w fun e W' => ∃ v, e = .returned v ∧ W'.ownsRow w.heap.size 33 1 v 1 [.int .u64 x0] ∧ Below w.heap.size w W' := by
  have h1 : 1 ≤ n := by omega
  obtain ⟨i0, hi, hz0, hz1, hz2⟩ := info_parts info33
  refine callsIn_of_wp_marks Try.func40 rfl h40 ?_ hro
  simp only [Try.ntmps40, List.size_toArray, List.length_cons, List.length_nil, Nat.reduceAdd, Nat.reduceSub, Array.replicate_succ, Array.replicate_zero, List.push_toArray, List.append_toArray, List.nil_append, List.cons_append]
  gi_wp2
  have bO := Boxed.new w 54 (.slice none 0 0)
  have hB0 : Below w.heap.size w (w.alloc (.cells #[.slice none 0 0] 54)) := (Below.refl _ w).alloc (Nat.le_refl _) _
  have hown0 : (w.alloc (.cells #[.slice none 0 0] 54)).ownsMap Try.prog 33 RH b nn (one kl v0) := by
    have hbl := hown.lt
    obtain ⟨es, clock, hb, Ft, hs, hD⟩ := hown
    exact ⟨es, clock, (hB0.block b hbl).trans hb, Ft, hs, hD⟩
  refine wpIn_rangeFunc_ownG hro h1 (gf := 34) (lb := #[.pointer (some ⟨Bm, 0, none⟩)]) rfl h34 (enters_of Try.func34 (by kernel_rfl) rfl)
    (keys_stops F (n - 1) h34 hro (by omega) Bm b nn x0 kl hkl v0 _ (by simp; omega) ((hB0.cell (p := ⟨Bm, 0, none⟩) hBm).trans hm) hown0) (fun h k => h.trans k) (fun W l o o' _ ho _ hw => KeepsWalks.putObj _ ho hw) (Below.refl _ _) (fun _ => rfl)
    (fun pre W => (∃ v, Boxed W w.heap.size 54 v ∧ W.ownsRow w.heap.size 33 1 v pre.length (pre.map (Value.int .u64)) ∧ True) ∧ Below w.heap.size w W)
    (fun _ _ _ => False)
    (OwnFrom.and (Own.from (holdsRow_own w.heap.size w.heap.size 54 33 1 (fun pre : List Int => pre.length) (fun pre : List Int => pre.map (Value.int .u64)) (fun _ _ => True)) _) (ownFrom_below (Nat.le_refl _) (by simp)))
    (fun _ _ _ _ _ hs _ _ => hs)
    ⟨⟨_, bO, World.ownsRow_nil _ _ _ _, trivial⟩, hB0⟩
    (fun x => { tmps := #[.slice none 0 0, .func (.func 34) #[] #[.pointer (some ⟨Bm, 0, none⟩)], .pointer (some ⟨w.heap.size, 0, none⟩), undef, .slice none 0 0, .int .u64 x, .func (.func 34) #[] #[.pointer (some ⟨Bm, 0, none⟩)], .int .u64 x, undef, undef, undef, undef, undef], defers := [] }) ?assign ?body ?done ?stop
  case assign =>
    intro l x W K hK
    gi_wp2
    exact hK
  case body =>
    rintro l pre x W ⟨⟨v, hv, hrow, -⟩, hB⟩ hlt
    have hc := hv.cell
    have hpl : pre.length ≤ 0 := by omega
    gi_wp2_with (gi_at_builtin; refine wpListIn_append_own _ rfl _ _ 54 rfl w.heap.size 33 i0 (.int .u64 0) 1 8 Try.underlying54 hi hz0 hz1 hz2 rfl (by decide) _ _ _ rfl (hrow.alloc _) ⟨W.heap.size, 0, none⟩ 1 1 [.int .u64 x] rfl rfl (cell_one_new _ _ _) (by simp [Value.oneCell']) (by unfold maxLen; omega) (by omega) (by have := hB.size; simp; omega) ?_; intro v' w1 hown' hgrow _; obtain ⟨g', cap', rfl⟩ := ownsRow_succ hown'; obtain ⟨hv1, hv2, hr2, hk2, hb2⟩ := hv.appended (by decide) hrow hB.size (Nat.le_refl _) hown' hgrow; have hc1 := hv1.cell; have hf1 := hv1.frozen)
    exact ⟨hk2.from _, hk2.walks, ⟨_, hv2, by simpa using hr2, trivial⟩, hB.trans hb2⟩
  case done =>
    rintro D ys W hD rfl ⟨⟨v, hv, hrow, -⟩, hB⟩ hK
    have hc := hv.cell
    gi_wp2
    refine ⟨by simp, .inl ⟨_, _, rfl, run_takeDeferred hK, ?_⟩⟩
    exact ⟨_, results_tmp rfl _ _ _, v, rfl, ownsRow_putObj hrow _ hK rfl, hB.trans (belowK_b (w := w) (Nat.le_refl _) W D _ _ (by simp at hD; omega) hK rfl rfl)⟩
  case stop =>
    rintro D c pre W _ _ h _
    exact h.elim
theorem collect_in (F : Fence) (n : Nat) (h32 : F.fn 32) (h40 : F.fn 40) (h34 : F.fn 34) (hro : F.round = none) (hn : 4 ≤ n) (Bm b nn : Nat) (x0 : Int) (kl : Lit) (hkl : keyOf Try.prog 33 (.int .u64 x0) = some kl) (v0 : Value) (w : World) (hBm : Bm < w.heap.size)
    (hm : w.cell? ⟨Bm, 0, none⟩ = some (.map (some b))) (hown : w.ownsMap Try.prog 33 RH b nn (one kl v0)) :
    CallsIn F n Try.prog 32 #[.func (.func 34) #[] #[.pointer (some ⟨Bm, 0, none⟩)]] w fun e W' => ∃ v, e = .returned v ∧ W'.ownsRow w.heap.size 33 1 v 1 [.int .u64 x0] ∧ Below w.heap.size w W' := by
  have h1 : 1 ≤ n := by omega
  refine callsIn_of_wp Try.func32 rfl h32 ?_ hro
  simp only [Try.ntmps32, List.size_toArray, List.length_cons, List.length_nil, Nat.reduceAdd, Nat.reduceSub, Array.replicate_succ, Array.replicate_zero, List.push_toArray, List.append_toArray, List.nil_append, List.cons_append]
  gi_wp2_with (gi_at_call 40; refine (append_in F (n - 1) h40 h34 hro (by omega) Bm b nn x0 kl hkl v0 _ hBm hm hown).mono ?_; rintro e w' ⟨v, rfl, hrow, hb⟩)
  go_ret
  exact ⟨v, rfl, hrow, hb⟩
theorem collect_one (Bm b nn : Nat) (x0 : Int) (kl : Lit) (hkl : keyOf Try.prog 33 (.int .u64 x0) = some kl) (v0 : Value) (w : World)
    (hm : w.cell? ⟨Bm, 0, none⟩ = some (.map (some b))) (hown : w.ownsMap Try.prog 33 RH b nn (one kl v0)) :
    Calls Try.prog 32 #[.func (.func 34) #[] #[.pointer (some ⟨Bm, 0, none⟩)]] w fun e W' => ∃ g cap, e = .returned (.slice (some ⟨g, 0, none⟩) 1 cap) ∧ w.heap.size ≤ g ∧ W'.cell? ⟨g, 0, none⟩ = some (.int .u64 x0) ∧ Below w.heap.size w W' := by
  refine ((callsIn_wide (n := 4)).1 (collect_in Fence.wide 4 trivial trivial trivial rfl (by omega) Bm b nn x0 kl hkl v0 w (World.block_lt_of_cell? _ _ hm) hm hown)).mono ?_
  rintro e W' ⟨v, rfl, hrow, hb⟩
  rcases hrow.2 with ⟨_, h0⟩ | ⟨g, cap, cur, rfl, hbase, hgb, r1, r2, r3, r4⟩
  · omega
  · refine ⟨g, cap, rfl, hbase, ?_, hb⟩
    have : cur[0]? = some (.int .u64 x0) := by
      have h4 := congrArg (fun l => l[0]?) r4
      simpa using h4
    simp [World.cell?, hgb, this]
theorem keys_any (mb : Option Nat) (w : World) : Calls Try.prog 23 #[.map mb] w fun e w' => e = .returned (.func (.func 34) #[] #[.pointer (some ⟨w.heap.size, 0, none⟩)]) ∧ w' = w.alloc (.cells #[.map mb] 43) :=
  (callsIn_wide (n := 1)).1 (keys_in Fence.wide 1 trivial rfl mb w)
/-- slices.Sorted over the keys of a map with one entry. -/
theorem sorted_one (Bm b nn : Nat) (x0 : Int) (kl : Lit) (hkl : keyOf Try.prog 33 (.int .u64 x0) = some kl) (v0 : Value) (w : World)
    (hm : w.cell? ⟨Bm, 0, none⟩ = some (.map (some b))) (hown : w.ownsMap Try.prog 33 RH b nn (one kl v0)) :
    Calls Try.prog 22 #[.func (.func 34) #[] #[.pointer (some ⟨Bm, 0, none⟩)]] w fun e W' => ∃ g cap, e = .returned (.slice (some ⟨g, 0, none⟩) 1 cap) ∧ w.heap.size ≤ g ∧ W'.cell? ⟨g, 0, none⟩ = some (.int .u64 x0) ∧ Below w.heap.size w W' := by
  go_enter Try.func22, Try.ntmps22
  go_wp2_with (first
    | (go_at_call 32; refine (collect_one Bm b nn x0 kl hkl v0 _ hm hown).mono ?_; rintro e w' ⟨g, cap, rfl, hg, hc, hb⟩)
    | (go_at_call 33; refine (sort_1 _ _ _).mono ?_; rintro e w' ⟨rfl, rfl⟩))
  go_ret
  exact ⟨_, _, rfl, hg, hc, hb⟩
end Go.Proofs.Ytmphajjaepahkaa
