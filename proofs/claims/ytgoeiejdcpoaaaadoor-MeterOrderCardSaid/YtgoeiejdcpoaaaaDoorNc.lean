/-
  Plain law of a put into a list of counters; walks: the document's meter: Copy, Add where nothing is added. Part of the proofs of the meter's statements. No condition beyond the theorems' own hypotheses.
-/
import Derived.Test.YtgoeiejdcpoaaaaDoorNb
namespace Go.Proofs.YtgoeiejdcpoaaaaDoor
open Go.RowKit Go.Maps Go.WideAt Go.WideShapes Go.Sort Fl

theorem before_asymm {a b : List UInt8} (h : bytesBefore a b = true) : bytesBefore b a = false := by
  cases e : bytesBefore b a
  · rfl
  · have := bytes_trans _ _ _ h e
    rw [bytes_irrefl] at this
    cases this
/-- Where a new name stands. -/
def posE (l : List Ent) (s : List UInt8) : Nat := (l.takeWhile (fun e => bytesBefore e.1 s)).length
theorem posE_le (l : List Ent) (s : List UInt8) : posE l s ≤ l.length := by
  unfold posE
  exact (List.takeWhile_sublist _).length_le
theorem posE_lt (s : List UInt8) : ∀ (l : List Ent) (k : Nat), k < posE l s → ∀ e, l[k]? = some e → bytesBefore e.1 s = true
  | [], k, h, _, _ => by simp [posE] at h
  | y :: r, k, h, e, he => by
    unfold posE at h
    rw [List.takeWhile_cons] at h
    cases hb : bytesBefore y.1 s
    · rw [hb] at h; simp at h
    · rw [hb] at h
      simp only [if_true, List.length_cons] at h
      cases k with
      | zero =>
        obtain rfl : y = e := by simpa using he
        exact hb
      | succ k => exact posE_lt s r k (by unfold posE; omega) e (by simpa using he)
theorem posE_at (s : List UInt8) : ∀ (l : List Ent) (e : Ent), l[posE l s]? = some e → bytesBefore e.1 s = false
  | [], e, he => by simp at he
  | y :: r, e, he => by
    unfold posE at he
    rw [List.takeWhile_cons] at he
    cases hb : bytesBefore y.1 s
    · rw [hb] at he
      obtain rfl : y = e := by simpa using he
      exact hb
    · rw [hb] at he
      simp only [if_true, List.length_cons, List.getElem?_cons_succ] at he
      exact posE_at s r e he
theorem hasE_no {l : List Ent} {s : List UInt8} (h : hasE l s = false) : ∀ e ∈ l, e.1 ≠ s := by
  intro e he hs
  have : hasE l s = true := List.any_eq_true.2 ⟨e, he, by simp [hs]⟩
  rw [h] at this
  cases this
theorem insE_pos (x : Ent) : ∀ l : List Ent, (∀ e ∈ l, e.1 ≠ x.1) → insE x l = l.take (posE l x.1) ++ x :: l.drop (posE l x.1)
  | [], _ => rfl
  | y :: r, hn => by
    unfold insE posE
    rw [List.takeWhile_cons]
    by_cases h : bytesBefore x.1 y.1 = true
    · rw [if_pos h, before_asymm h]
      simp
    · rw [if_neg h]
      have hb : bytesBefore y.1 x.1 = true := by
        rcases bytes_total x.1 y.1 (fun e => hn y (by simp) e.symm) with h' | h'
        · exact absurd h' h
        · exact h'
      rw [hb]
      simp only [if_true, List.length_cons, List.take_succ_cons, List.drop_succ_cons, List.cons_append]
      rw [insE_pos x r (fun e he => hn e (by simp [he]))]
      rfl
theorem filter_no {l : List Ent} {s : List UInt8} (h : ∀ e ∈ l, e.1 ≠ s) : l.filter (fun e => !(e.1 == s)) = l :=
  List.filter_eq_self.2 fun e he => by simpa using h e he
theorem putE_new (x : Ent) (l : List Ent) (h : hasE l x.1 = false) : putE x l = l.take (posE l x.1) ++ x :: l.drop (posE l x.1) := by
  unfold putE
  rw [filter_no (hasE_no h), insE_pos x l (hasE_no h)]
theorem putE_set (x : Ent) : ∀ (l : List Ent) (i : Nat) (e : Ent), Srt l → l[i]? = some e → e.1 = x.1 → putE x l = l.set i x
  | [], i, e, _, he, _ => by simp at he
  | y :: r, 0, e, hs, he, hx => by
    obtain rfl : y = e := by simpa using he
    obtain ⟨h1, h2⟩ := List.pairwise_cons.1 hs
    have hno : ∀ z ∈ r, z.1 ≠ x.1 := fun z hz hzx => by
      have := h1 z hz
      rw [hx, hzx, bytes_irrefl] at this
      cases this
    unfold putE
    rw [List.filter_cons]
    simp only [hx, beq_self_eq_true, Bool.not_true, Bool.false_eq_true, if_false, List.set_cons_zero]
    rw [filter_no hno]
    cases r with
    | nil => rfl
    | cons z t =>
      have := h1 z (by simp)
      rw [hx] at this
      simp [insE, this]
  | y :: r, i + 1, e, hs, he, hx => by
    obtain ⟨h1, h2⟩ := List.pairwise_cons.1 hs
    have he' : r[i]? = some e := by simpa using he
    have hb := h1 e (List.mem_of_getElem? he')
    rw [hx] at hb
    have hne : (y.1 == x.1) = false := by
      rw [beq_eq_false_iff_ne]
      intro h
      rw [h, bytes_irrefl] at hb
      cases hb
    have ih := putE_set x r i e h2 he' hx
    unfold putE at ih ⊢
    rw [List.filter_cons, hne]
    simp only [Bool.not_false, if_true, List.set_cons_succ, insE]
    rw [before_asymm hb, if_neg (by simp), ih]
theorem cnts_set (x : Ent) : ∀ (l : List Ent) (i : Nat), i < l.length → cnts (l.set i x) = (((cnts l).set (i * 3) (.string ⟨x.1.toArray⟩)).set (i * 3 + 1) (.int .i64 x.2.1)).set (i * 3 + 2) (.int .i64 x.2.2)
  | [], i, h => by simp at h
  | y :: r, 0, _ => by
    unfold cnts
    simp [cnt]
  | y :: r, i + 1, h => by
    have ih := cnts_set x r i (by simpa using h)
    unfold cnts at *
    simp only [List.set_cons_succ, List.flatMap_cons, ih]
    have e : cnt y = [.string ⟨y.1.toArray⟩, .int .i64 y.2.1, .int .i64 y.2.2] := rfl
    rw [e, show (i + 1) * 3 = i * 3 + 3 by omega]
    simp only [List.cons_append, List.nil_append, show i * 3 + 3 + 1 = i * 3 + 1 + 3 by omega, show i * 3 + 3 + 2 = i * 3 + 2 + 3 by omega, List.set_cons_succ]
theorem cnts_append (a b : List Ent) : cnts (a ++ b) = cnts a ++ cnts b := by simp [cnts]
theorem cnts_one : ∀ (l : List Ent), ∀ u ∈ cnts l, u.oneCell' = true := by
  intro l u hu
  obtain ⟨e, _, h⟩ := List.mem_flatMap.1 hu
  simp [cnt] at h
  rcases h with rfl | rfl | rfl <;> rfl
theorem cnts_len (l : List Ent) : (cnts l).length = l.length * 3 := by
  induction l with
  | nil => rfl
  | cons y r ih =>
    unfold cnts at *
    rw [List.flatMap_cons, List.length_append, ih]
    simp [cnt]
    omega
theorem cnts_drop (l : List Ent) : ∀ k, (cnts l).drop (k * 3) = cnts (l.drop k) := by
  induction l with
  | nil => intro k; simp [cnts]
  | cons y r ih =>
    intro k
    cases k with
    | zero => simp
    | succ k =>
      unfold cnts at *
      rw [List.flatMap_cons, List.drop_succ_cons, ← ih k, show (k + 1) * 3 = (cnt y).length + k * 3 by simp [cnt]; omega, List.drop_append]
      simp
theorem cnts_take (l : List Ent) : ∀ k, (cnts l).take (k * 3) = cnts (l.take k) := by
  induction l with
  | nil => intro k; simp [cnts]
  | cons y r ih =>
    intro k
    cases k with
    | zero => simp [cnts]
    | succ k =>
      unfold cnts at *
      rw [List.flatMap_cons, List.take_succ_cons, List.flatMap_cons, ← ih k, show (k + 1) * 3 = (cnt y).length + k * 3 by simp [cnt]; omega, List.take_append]
      simp
      exact List.take_of_length_le (by omega)

set_option maxHeartbeats 800000 in
theorem radd_arg (r : Nat) (s : ByteArray) (hs : s.size ≤ maxLen) (a c : Int) (h : mayB s.data.toList = false ∨ ¬ (0 ≤ a ∧ a ≤ 4503599627370496 ∧ 0 ≤ c ∧ c ≤ 4503599627370496)) (w : World) :
    Calls Tryd.prog 23 #[.pointer (some ⟨r, 0, none⟩), .string s, .int .i64 a, .int .i64 c] w fun e w' => e = .returned (.int .i64 2) ∧ w = w' := by
  have HM := Lib.hid (rmay_any s hs)
  cases hm : mayB s.data.toList
  · have HE := Lib.hid hm
    clear h hm
    go_enter Tryd.func23, Tryd.ntmps23
    go_wp2_with (go_at_call 16; refine (HM.out _).mono ?_; rintro e w' ⟨rfl, rfl⟩; rw [HE.out])
    go_ret
    exact ⟨rfl, rfl⟩
  · have h' : ¬ (0 ≤ a ∧ a ≤ 4503599627370496 ∧ 0 ≤ c ∧ c ≤ 4503599627370496) := h.resolve_left (by rw [hm]; simp)
    have HE := Lib.hid hm
    clear h hm
    by_cases a0 : a < 0
    · clear h'
      go_enter Tryd.func23, Tryd.ntmps23
      go_wp2_with (go_at_call 16; refine (HM.out _).mono ?_; rintro e w' ⟨rfl, rfl⟩; rw [HE.out])
      go_ret
      exact ⟨rfl, rfl⟩
    · have a0' : decide (a < 0) = false := by simp; omega
      by_cases a1 : 4503599627370496 < a
      · clear h' a0
        go_enter Tryd.func23, Tryd.ntmps23
        go_wp2_with (go_at_call 16; refine (HM.out _).mono ?_; rintro e w' ⟨rfl, rfl⟩; rw [HE.out])
        go_ret
        exact ⟨rfl, rfl⟩
      · have a1' : decide (4503599627370496 < a) = false := by simp; omega
        by_cases c0 : c < 0
        · clear h' a0 a1
          go_enter Tryd.func23, Tryd.ntmps23
          go_wp2_with (go_at_call 16; refine (HM.out _).mono ?_; rintro e w' ⟨rfl, rfl⟩; rw [HE.out])
          go_ret
          exact ⟨rfl, rfl⟩
        · have c0' : decide (c < 0) = false := by simp; omega
          have c1 : 4503599627370496 < c := by omega
          clear h' a0 a1 c0
          go_enter Tryd.func23, Tryd.ntmps23
          go_wp2_with (go_at_call 16; refine (HM.out _).mono ?_; rintro e w' ⟨rfl, rfl⟩; rw [HE.out])
          go_ret
          exact ⟨rfl, rfl⟩
set_option maxHeartbeats 800000 in
theorem radd_full (r : Nat) (v : Value) (l : List Ent) (hl : l.length ≤ 1000) (w : World) (hR : RefAt w r v l) (s : ByteArray) (hm : mayB s.data.toList = true) (a c : Nat) (ha : a ≤ 4503599627370496) (hc : c ≤ 4503599627370496)
    (hno : hasE l s.data.toList = false) (hf : 64 ≤ l.length) :
    Calls Tryd.prog 23 #[.pointer (some ⟨r, 0, none⟩), .string s, .int .i64 a, .int .i64 c] w fun e w' => e = .returned (.int .i64 6) ∧ w = w' := by
  have HM := Lib.hid (rmay_any s (small hm))
  have HA := Lib.hid (at_no r v l hl w hR s hno)
  have HE := Lib.hid hm
  have a1 : decide ((4503599627370496 : Int) < (a : Int)) = false := by simp; omega
  have c1 : decide ((4503599627370496 : Int) < (c : Int)) = false := by simp; omega
  have hc0 := hR.cell
  rcases hR.shape with ⟨rfl, rfl⟩ | ⟨g, cap, hne, rfl, hcap, hcm, hgr, hgl, hfz, hcell⟩
  · simp at hf
  · have hf' : (64 : Int) ≤ (l.length : Int) := by omega
    clear hm hno hR hcell hfz hne ha hc hf
    go_enter Tryd.func23, Tryd.ntmps23
    go_wp2_with (first
      | (go_at_call 11; refine HA.out.mono ?_; rintro e w' ⟨rfl, rfl⟩)
      | (go_at_call 16; refine (HM.out _).mono ?_; rintro e w' ⟨rfl, rfl⟩; rw [HE.out]))
    go_ret
    exact ⟨rfl, rfl⟩
end Go.Proofs.YtgoeiejdcpoaaaaDoor
