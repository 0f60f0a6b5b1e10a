/-
  Walk: (*Meter).Total: the sums of the counters, each no more than may be. Part of the proofs of the meter's statements. No condition beyond the theorems' own hypotheses.
-/
import Derived.Test.YtgoeiejdcpoaaaaDoorMf
namespace Go.Proofs.YtgoeiejdcpoaaaaDoor
open Go.RowKit Go.Maps Go.WideAt Go.WideShapes Go.Sort Fl

theorem run_min (a b : Nat) (ha : a ≤ 4503599627370496) (hb : b ≤ 4503599627370496) : ∃ x, Ieee.double.add (W a) (W b) = some x ∧ ∀ w, (Builtin.min_ #[61, 61] 61 #[.float .f64 x, .float .f64 4841369599423283200]).run Tryd.prog w = .ok (.float .f64 (W (min (a + b) 4503599627370496))) w := by
  obtain ⟨x, h1, h2, h3⟩ := add_any a b ha hb
  refine ⟨x, h1, fun w => ?_⟩
  cases hc : compare (a + b) 4503599627370496
  · have hlt := Nat.compare_eq_lt.1 hc
    rw [hc] at h3
    rw [Nat.min_eq_left (by omega), ← h2 (by omega)]
    simp [Builtin.min_, Builtin.min2, h3]
  · have heq := Nat.compare_eq_eq.1 hc
    rw [hc] at h3
    have hx : x = 4841369599423283200 := by rw [h2 (by omega), heq, W_max]
    rw [heq, Nat.min_self, W_max]
    subst hx
    simp [Builtin.min_, Builtin.min2, h3]
  · have hgt := Nat.compare_eq_gt.1 hc
    rw [hc] at h3
    rw [Nat.min_eq_right (by omega), W_max]
    simp [Builtin.min_, Builtin.min2, h3]
theorem run_fadd (x y r : Nat) (h : Ieee.double.add x y = some r) (w : World) : (binOp .add 61 (.float .f64 x) (.float .f64 y)).run Tryd.prog w = .ok (.float .f64 r) w :=
  run_float_arith w .add 61 .f64 x y r h
def step (s : Nat × Nat) (e : Ent) : Nat × Nat := (min (s.1 + e.2.1) 4503599627370496, min (s.2 + e.2.2) 4503599627370496)
def tot (l : List Ent) : Nat × Nat := l.foldl step (0, 0)
theorem tot_le (l : List Ent) : (tot l).1 ≤ 4503599627370496 ∧ (tot l).2 ≤ 4503599627370496 := by
  have : ∀ (l : List Ent) (s : Nat × Nat), s.1 ≤ 4503599627370496 ∧ s.2 ≤ 4503599627370496 → (l.foldl step s).1 ≤ 4503599627370496 ∧ (l.foldl step s).2 ≤ 4503599627370496 := by
    intro l
    induction l with
    | nil => intro s h; exact h
    | cons e r ih => intro s _; exact ih _ ⟨Nat.min_le_right _ _, Nat.min_le_right _ _⟩
  exact this l _ ⟨Nat.zero_le _, Nat.zero_le _⟩
theorem tot_take (l : List Ent) (k : Nat) (e : Ent) (he : l[k]? = some e) : tot (l.take (k + 1)) = step (tot (l.take k)) e := by
  unfold tot
  rw [List.take_add_one, he, List.foldl_append]
  rfl
theorem cnts_at (l : List Ent) : ∀ (k : Nat) (e : Ent), l[k]? = some e → ∀ j, j < 3 → (cnts l)[k * 3 + j]? = (cnt e)[j]? := by
  induction l with
  | nil => intro k e h; simp at h
  | cons x r ih =>
    intro k e h j hj
    have hc : (cnt x).length = 3 := rfl
    unfold cnts
    rw [List.flatMap_cons]
    cases k with
    | zero =>
      obtain rfl : x = e := by simpa using h
      rw [List.getElem?_append_left (by rw [hc]; omega)]
      congr 1
      omega
    | succ k =>
      rw [List.getElem?_append_right (by rw [hc]; omega), hc, show (k + 1) * 3 + j - 3 = k * 3 + j by omega]
      exact ih k e (by simpa using h) j hj
set_option maxHeartbeats 3200000 in
set_option maxRecDepth 20000 in
theorem total_any (Q p b : Nat) (l : List Ent) (hg : Good l) (w : World) (hM : MeterAt w Q p b l) :
    Calls Tryd.prog 20 #[.pointer (some ⟨p, 0, none⟩)] w fun e w' => e = .returned (.complex .f64 (W (tot l).1) (W (tot l).2)) ∧ Below w.heap.size w w' := by
  have HA := Lib.hid (all_any Q p b l hg w hM)
  have HG := Lib.hid hg
  have hlen := hg.len
  clear hM hg
  go_enter Tryd.func20, Tryd.ntmps20
  go_wp2_with (first
    | (go_at_call 19; refine HA.out.mono ?_; rintro e w1 ⟨v, rfl, hrow, hnil, hb1⟩; have HB1 := Lib.hid hb1; clear hb1; have HN := Lib.hid hnil; clear hnil; rcases hrow.2 with ⟨rfl, h0⟩ | ⟨g, cap, cur, rfl, hbase, hgb, r1, r2, r3, r4⟩))
  · obtain rfl := List.eq_nil_of_length_eq_zero h0
    clear hrow
    go_rounds 1
    go_ret
    exact ⟨by simp [tot, W_zero], HB1.out⟩
  · have hcell : ∀ (k : Nat) (e : Ent), l[k]? = some e → ∀ j, j < 3 → w1.cell? ⟨g, k * 3 + j, none⟩ = (cnt e)[j]? := by
      intro k e he j hj
      have hkl := (List.getElem?_eq_some_iff.1 he).1
      have h4 := congrArg (fun t => t[k * 3 + j]?) r4
      simp only [List.getElem?_take] at h4
      rw [if_pos (by omega)] at h4
      rw [cnts_at l k e he j hj] at h4
      have h5 : cur[k * 3 + j]? = (cnt e)[j]? := by simpa using h4
      simp [World.cell?, hgb, h5]
    have HC := Lib.hid hcell
    have hgl : g < w1.heap.size := (Array.getElem?_eq_some_iff.1 hgb).1
    clear hrow hcell r1 r2 r3 r4 hgb hbase
    go_loopw [2, 10] (fun v i wr => ∃ k : Nat, k ≤ l.length ∧ i = .int .i64 k ∧ v = .complex .f64 (W (tot (l.take k)).1) (W (tot (l.take k)).2) ∧ Hid (Below w1.heap.size w1 wr))
      (fun _ i _ => l.length - (intOf i).toNat)
    case atStart => exact ⟨0, Nat.zero_le _, rfl, by simp [tot, W_zero], Lib.hid (Below.refl _ _)⟩
    case round =>
      obtain ⟨k, hk, rfl, rfl, hbk⟩ := hrel
      by_cases hlt : k < l.length
      · have hk1 : (k : Int) < (l.length : Int) := by omega
        have hk0 : (0 : Int) ≤ (k : Int) := by omega
        obtain ⟨e, he⟩ : ∃ e, l[k]? = some e := ⟨l[k], List.getElem?_eq_getElem hlt⟩
        have hfit := HG.out.fit e (List.mem_of_getElem? he)
        have ht := tot_le (l.take k)
        have q0 := (hbk.out.cell (p := ⟨g, k * 3 + 0, none⟩) hgl).trans (HC.out k e he 0 (by omega))
        have q1 := (hbk.out.cell (p := ⟨g, k * 3 + 1, none⟩) hgl).trans (HC.out k e he 1 (by omega))
        have q2 := (hbk.out.cell (p := ⟨g, k * 3 + 2, none⟩) hgl).trans (HC.out k e he 2 (by omega))
        simp only [cnt, List.getElem?_cons_zero, List.getElem?_cons_succ, Nat.add_zero] at q0 q1 q2
        obtain ⟨x, a1, m1⟩ := run_min (tot (l.take k)).1 e.2.1 ht.1 hfit.1
        obtain ⟨y, a2, m2⟩ := run_min (tot (l.take k)).2 e.2.2 ht.2 hfit.2
        have HT := Lib.hid (tot_take l k e he)
        have f1 := foi e.2.1
        have f2 := foi e.2.2
        have s1 := fun w => run_fadd _ _ _ a1 w
        have s2 := fun w => run_fadd _ _ _ a2 w
        have re := fun w => run_real (W (tot (l.take k)).1) (W (tot (l.take k)).2) w
        have im := fun w => run_imag (W (tot (l.take k)).1) (W (tot (l.take k)).2) w
        have cx := fun x y w => run_complex x y w
        clear a1 a2 ht hfit he
        generalize tot (l.take k) = t at *
        go_wp2
        go_roundw
        case rel => exact ⟨k + 1, by omega, by go_num, by rw [HT.out]; rfl, Lib.hid (hbk.out.alloc hbk.out.size _)⟩
        case measure => simp [intOf]; omega
      · obtain rfl : k = l.length := by omega
        clear hlt
        rw [List.take_length]
        go_wp2
        go_ret
        exact ⟨rfl, HB1.out.trans (hbk.out.mono HB1.out.size)⟩
end Go.Proofs.YtgoeiejdcpoaaaaDoor
