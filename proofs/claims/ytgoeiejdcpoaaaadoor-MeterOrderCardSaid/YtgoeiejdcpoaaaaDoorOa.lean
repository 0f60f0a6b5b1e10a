/-
  Plain law of MeterOrder: in whatever order counts are added, or joined, what comes of it is the same. No condition beyond the theorems' own hypotheses.
-/
import Derived.Test.YtgoeiejdcpoaaaaDoorPa
namespace Go.Proofs.YtgoeiejdcpoaaaaDoor
open Go.RowKit Go.Maps Go.WideAt Go.WideShapes Go.Sort

/-- What a name's counter is. -/
def look (l : List Ent) (n : List UInt8) : Option (Nat × Nat) := (l.find? (fun e => e.1 == n)).map (·.2)
def plus (p q : Nat × Nat) : Nat × Nat := (p.1 + q.1, p.2 + q.2)
def comb : Option (Nat × Nat) → Option (Nat × Nat) → Option (Nat × Nat)
  | none, o => o
  | some p, none => some p
  | some p, some q => some (plus p q)
theorem comb_none (o : Option (Nat × Nat)) : comb o none = o := by cases o <;> rfl
theorem comb_comm (a b : Option (Nat × Nat)) : comb a b = comb b a := by
  cases a <;> cases b <;> simp [comb, plus, Nat.add_comm]
theorem comb_assoc (a b c : Option (Nat × Nat)) : comb (comb a b) c = comb a (comb b c) := by
  cases a <;> cases b <;> cases c <;> simp [comb, plus, Nat.add_assoc]
/-- What counts that are added make of a name's counter. -/
def sp (n : List UInt8) : List Ent → Option (Nat × Nat)
  | [] => none
  | e :: r => comb (if n = e.1 then some e.2 else none) (sp n r)
theorem sp_append (n : List UInt8) : ∀ xs ys : List Ent, sp n (xs ++ ys) = comb (sp n xs) (sp n ys)
  | [], ys => rfl
  | e :: r, ys => by
    simp only [List.cons_append, sp]
    rw [sp_append n r ys, comb_assoc]
theorem sp_perm (n : List UInt8) {xs ys : List Ent} (h : xs.Perm ys) : sp n xs = sp n ys := by
  induction h with
  | nil => rfl
  | cons x _ ih => simp only [sp, ih]
  | swap x y l => simp only [sp]; rw [← comb_assoc, ← comb_assoc, comb_comm (if n = y.1 then some y.2 else none)]
  | trans _ _ ih1 ih2 => exact ih1.trans ih2
theorem srt_inj : ∀ {l : List Ent}, Srt l → ∀ {e e' : Ent}, e ∈ l → e' ∈ l → e.1 = e'.1 → e = e'
  | [], _, _, _, h, _, _ => by simp at h
  | y :: r, hs, e, e', he, he', h => by
    obtain ⟨h1, h2⟩ := List.pairwise_cons.1 hs
    rcases List.mem_cons.1 he with h3 | h3
    · rcases List.mem_cons.1 he' with h4 | h4
      · rw [h3, h4]
      · have := h1 e' h4
        rw [← h3, h, bytes_irrefl] at this
        cases this
    · rcases List.mem_cons.1 he' with h4 | h4
      · have := h1 e h3
        rw [← h4, h, bytes_irrefl] at this
        cases this
      · exact srt_inj h2 h3 h4 h
theorem look_mem {l : List Ent} (hs : Srt l) (n : List UInt8) (x : Nat × Nat) : look l n = some x ↔ ((n, x) : Ent) ∈ l := by
  unfold look
  constructor
  · intro h
    obtain ⟨e, he, hx⟩ := Option.map_eq_some_iff.1 h
    have h1 : e.1 = n := by have := List.find?_some he; simpa using this
    have h2 := List.mem_of_find?_eq_some he
    obtain ⟨a, b⟩ := e
    simp only at h1 hx
    subst h1 hx
    exact h2
  · intro h
    have : ∃ e, l.find? (fun e => e.1 == n) = some e := by
      cases hf : l.find? (fun e => e.1 == n) with
      | some e => exact ⟨e, rfl⟩
      | none =>
        have := List.find?_eq_none.1 hf _ h
        simp at this
    obtain ⟨e, he⟩ := this
    have h1 : e.1 = n := by have := List.find?_some he; simpa using this
    have h2 := List.mem_of_find?_eq_some he
    rw [he, srt_inj hs h2 h h1]
    rfl
theorem srt_ext : ∀ {l l' : List Ent}, Srt l → Srt l' → (∀ e, e ∈ l ↔ e ∈ l') → l = l'
  | [], [], _, _, _ => rfl
  | [], y :: s, _, _, h => by have := (h y).2 (by simp); simp at this
  | x :: r, [], _, _, h => by have := (h x).1 (by simp); simp at this
  | x :: r, y :: s, h1, h2, h => by
    obtain ⟨a1, a2⟩ := List.pairwise_cons.1 h1
    obtain ⟨b1, b2⟩ := List.pairwise_cons.1 h2
    have hxy : x = y := by
      rcases List.mem_cons.1 ((h x).1 (by simp)) with e | hx
      · exact e
      · rcases List.mem_cons.1 ((h y).2 (by simp)) with e | hy
        · exact e.symm
        · have c1 := b1 x hx
          have c2 := a1 y hy
          rw [before_asymm c2] at c1
          cases c1
    subst hxy
    congr 1
    refine srt_ext a2 b2 (fun e => ⟨fun he => ?_, fun he => ?_⟩)
    · rcases List.mem_cons.1 ((h e).1 (by simp [he])) with rfl | h'
      · have := a1 e he
        rw [bytes_irrefl] at this
        cases this
      · exact h'
    · rcases List.mem_cons.1 ((h e).2 (by simp [he])) with rfl | h'
      · have := b1 e he
        rw [bytes_irrefl] at this
        cases this
      · exact h'
theorem look_ext {l l' : List Ent} (h1 : Srt l) (h2 : Srt l') (h : ∀ n, look l n = look l' n) : l = l' :=
  srt_ext h1 h2 fun e => by
    have := look_mem h1 e.1 e.2
    have h' := look_mem h2 e.1 e.2
    rw [h e.1] at this
    exact this.symm.trans h'
theorem mem_putE_iff (x e : Ent) (l : List Ent) : e ∈ putE x l ↔ e = x ∨ (e ∈ l ∧ e.1 ≠ x.1) := by
  unfold putE
  rw [mem_insE, List.mem_filter]
  simp
theorem look_putE (x : Ent) {l : List Ent} (hs : Srt l) (n : List UInt8) : look (putE x l) n = if n = x.1 then some x.2 else look l n := by
  apply Option.ext
  intro y
  rw [look_mem (srt_putE x l hs), mem_putE_iff]
  by_cases hn : n = x.1
  · subst hn
    simp only [if_true, ne_eq, not_true_eq_false, and_false, or_false]
    constructor
    · intro h
      rw [← h]
    · intro h
      injection h with h
      subst h
      rfl
  · simp only [if_neg hn]
    rw [look_mem hs]
    constructor
    · rintro (h | h)
      · exact absurd (by rw [← h]) hn
      · exact h.1
    · exact fun h => .inr ⟨h, hn⟩
theorem look_none {l : List Ent} {n : List UInt8} (h : l.find? (fun e => e.1 == n) = none) : look l n = none := by simp [look, h]
theorem addL_ok {l : List Ent} (hg : Good l) (e : Ent) (hm : mayB e.1 = true) (A C : Nat) (hA : ∀ x ∈ l, x.2.1 ≤ A ∧ x.2.2 ≤ A) (hC : e.2.1 ≤ C ∧ e.2.2 ≤ C) (hAC : A + C ≤ 4503599627370496) (hlen : l.length < 64) :
    ∃ l', addL l e.1 e.2.1 e.2.2 = (0, l') ∧ Good l' ∧ l'.length ≤ l.length + 1 ∧ (∀ x ∈ l', x.2.1 ≤ A + C ∧ x.2.2 ≤ A + C) ∧ ∀ n, look l' n = comb (look l n) (if n = e.1 then some e.2 else none) := by
  have hgood := good_addL hg e.1 e.2.1 e.2.2
  unfold addL at hgood ⊢
  rw [if_pos ⟨hm, by omega, by omega, by omega, by omega⟩] at hgood ⊢
  simp only [Int.toNat_natCast] at hgood ⊢
  split at hgood
  · rename_i hf
    rw [if_pos hlen] at hgood ⊢
    refine ⟨_, rfl, hgood, ?_, fun x hx => ?_, fun n => ?_⟩
    · unfold putE
      rw [len_insE]
      have := List.length_filter_le (fun x : Ent => !(x.1 == e.1)) l
      show (l.filter (fun x : Ent => !(x.1 == e.1))).length + 1 ≤ _
      omega
    · rcases (mem_putE_iff _ _ _).1 hx with rfl | ⟨h, _⟩
      · exact ⟨by show e.2.1 ≤ _; omega, by show e.2.2 ≤ _; omega⟩
      · have := hA x h; omega
    · rw [look_putE _ hg.srt]
      show (if n = e.1 then some e.2 else look l n) = _
      by_cases hn : n = e.1
      · subst hn
        rw [if_pos rfl, if_pos rfl, look_none hf]
        rfl
      · rw [if_neg hn, if_neg hn, comb_none]
  · rename_i x hf
    have hx1 : x.1 = e.1 := by have := List.find?_some hf; simpa using this
    have hmem := List.mem_of_find?_eq_some hf
    have hxA := hA x hmem
    have hv : x.2.1 + e.2.1 ≤ 4503599627370496 ∧ x.2.2 + e.2.2 ≤ 4503599627370496 := by omega
    rw [if_pos hv] at hgood ⊢
    refine ⟨_, rfl, hgood, ?_, fun y hy => ?_, fun n => ?_⟩
    · obtain ⟨i, hi⟩ := List.getElem?_of_mem hmem
      rw [putE_set (e.1, x.2.1 + e.2.1, x.2.2 + e.2.2) l i x hg.srt hi hx1, List.length_set]
      omega
    · rcases (mem_putE_iff _ _ _).1 hy with rfl | ⟨h, _⟩
      · exact ⟨by show x.2.1 + e.2.1 ≤ _; omega, by show x.2.2 + e.2.2 ≤ _; omega⟩
      · have := hA y h; omega
    · rw [look_putE _ hg.srt]
      show (if n = e.1 then some (x.2.1 + e.2.1, x.2.2 + e.2.2) else look l n) = _
      by_cases hn : n = e.1
      · subst hn
        have hl : look l e.1 = some x.2 := by simp [look, hf]
        rw [if_pos rfl, if_pos rfl, hl]
        rfl
      · rw [if_neg hn, if_neg hn, comb_none]
theorem adds_ok : ∀ (xs : List Ent) {l : List Ent} (A C : Nat), Good l → (∀ e ∈ xs, mayB e.1 = true ∧ e.2.1 ≤ C ∧ e.2.2 ≤ C) → (∀ x ∈ l, x.2.1 ≤ A ∧ x.2.2 ≤ A) → A + xs.length * C ≤ 4503599627370496 → l.length + xs.length ≤ 64 →
    ∃ l', addsL l xs = (0, l') ∧ Good l' ∧ l'.length ≤ l.length + xs.length ∧ (∀ x ∈ l', x.2.1 ≤ A + xs.length * C ∧ x.2.2 ≤ A + xs.length * C) ∧ ∀ n, look l' n = comb (look l n) (sp n xs)
  | [], l, A, C, hg, _, hA, _, _ => ⟨l, rfl, hg, by simp, by simpa using hA, fun n => by simp [sp, comb_none]⟩
  | e :: r, l, A, C, hg, hx, hA, hAC, hlen => by
    have he := hx e (by simp)
    have hmul : (e :: r).length * C = C + r.length * C := by rw [List.length_cons, Nat.succ_mul, Nat.add_comm]
    rw [hmul] at hAC ⊢
    simp only [List.length_cons] at hlen ⊢
    obtain ⟨l1, h1, g1, n1, b1, k1⟩ := addL_ok hg e he.1 A C hA he.2 (by omega) (by omega)
    obtain ⟨l2, h2, g2, n2, b2, k2⟩ := adds_ok r (A + C) C g1 (fun x h => hx x (by simp [h])) b1 (by omega) (by omega)
    refine ⟨l2, ?_, g2, by omega, fun x h => ?_, fun n => ?_⟩
    · rw [addsL, h1, if_pos rfl, h2]
    · have := b2 x h; omega
    · rw [k2, k1, sp, comb_assoc]
/-- A step's count; none, if it may not be. -/
def stepE (x : Stp) : List Ent := if mayB x.1.data.toList = true ∧ 0 ≤ x.2.1 ∧ x.2.1 ≤ 4503599627370496 ∧ 0 ≤ x.2.2 ∧ x.2.2 ≤ 4503599627370496 then [(x.1.data.toList, x.2.1.toNat, x.2.2.toNat)] else []
def entsOf (l : List Stp) : List Ent := l.flatMap stepE
theorem play_adds : ∀ (l : List Stp) (s l' : List Ent), addsL s (entsOf l) = (0, l') → l.foldl (fun s x => (addL s x.1.data.toList x.2.1 x.2.2).2) s = l'
  | [], s, l', h => by
    have : (0, s) = ((0 : Int), l') := h
    injection this
  | x :: r, s, l', h => by
    simp only [List.foldl_cons]
    have hc : entsOf (x :: r) = stepE x ++ entsOf r := by simp [entsOf]
    rw [hc] at h
    unfold stepE at h
    split at h
    · rename_i hv
      have e1 : ((x.2.1.toNat : Nat) : Int) = x.2.1 := by omega
      have e2 : ((x.2.2.toNat : Nat) : Int) = x.2.2 := by omega
      simp only [List.cons_append, List.nil_append, addsL, e1, e2] at h
      split at h
      · exact play_adds r _ _ h
      · rename_i h0
        exact absurd (congrArg Prod.fst h) h0
    · rename_i hv
      have : (addL s x.1.data.toList x.2.1 x.2.2).2 = s := by unfold addL; rw [if_neg hv]
      rw [this]
      exact play_adds r _ _ (by simpa using h)
/-- Steps of which no part is great. -/
def Low (l : List Stp) : Prop := ∀ x ∈ l, x.2.1 ≤ 1099511627776 ∧ x.2.2 ≤ 1099511627776
theorem ents_len (l : List Stp) : (entsOf l).length ≤ l.length := by
  induction l with
  | nil => simp [entsOf]
  | cons x r ih =>
    have hc : entsOf (x :: r) = stepE x ++ entsOf r := by simp [entsOf]
    have : (stepE x).length ≤ 1 := by unfold stepE; split <;> simp
    rw [hc, List.length_append, List.length_cons]
    omega
theorem ents_low {l : List Stp} (h : Low l) : ∀ e ∈ entsOf l, mayB e.1 = true ∧ e.2.1 ≤ 1099511627776 ∧ e.2.2 ≤ 1099511627776 := by
  intro e he
  obtain ⟨x, hx, hxe⟩ := List.mem_flatMap.1 he
  have hl := h x hx
  unfold stepE at hxe
  split at hxe
  · rename_i hv
    obtain rfl := List.mem_singleton.1 hxe
    exact ⟨hv.1, by show x.2.1.toNat ≤ _; omega, by show x.2.2.toNat ≤ _; omega⟩
  · simp at hxe
theorem play_ok {l : List Stp} (h : Low l) (hn : l.length ≤ 50) : Good (playL l) ∧ (playL l).length ≤ l.length ∧ (∀ x ∈ playL l, x.2.1 ≤ 54975581388800 ∧ x.2.2 ≤ 54975581388800) ∧ ∀ n, look (playL l) n = sp n (entsOf l) := by
  have hlen := ents_len l
  obtain ⟨l', h1, h2, h3, h4, h5⟩ := adds_ok (entsOf l) 0 1099511627776 good_nil (ents_low h) (by simp) (by
    have : (entsOf l).length * 1099511627776 ≤ 50 * 1099511627776 := Nat.mul_le_mul_right _ (by omega)
    omega) (by simp; omega)
  have e := play_adds l [] l' h1
  have e' : playL l = l' := e
  have hb : (entsOf l).length * 1099511627776 ≤ 50 * 1099511627776 := Nat.mul_le_mul_right _ (by omega)
  rw [e']
  refine ⟨h2, by simp at h3; omega, fun x hx => ?_, fun n => by rw [h5]; rfl⟩
  have := h4 x hx
  omega
theorem sp_look {l : List Ent} (hs : Srt l) (n : List UInt8) : sp n l = look l n := by
  induction l with
  | nil => rfl
  | cons y r ih =>
    obtain ⟨h1, h2⟩ := List.pairwise_cons.1 hs
    have ih := ih h2
    rw [sp, ih]
    by_cases hn : n = y.1
    · subst hn
      have : r.find? (fun e => e.1 == y.1) = none := by
        apply List.find?_eq_none.2
        intro e he h
        have hb := h1 e he
        have : e.1 = y.1 := by simpa using h
        rw [this, bytes_irrefl] at hb
        cases hb
      rw [if_pos rfl, look_none this]
      simp [look, comb]
    · have hb : (y.1 == n) = false := by
        rw [beq_eq_false_iff_ne]
        exact fun h => hn h.symm
      rw [if_neg hn]
      simp [look, comb, hb]
/-- THE PLAIN LAW. -/
theorem order_law {l : List Stp} (h : Low l) (hn : l.length ≤ 50) (k : Nat) : playL l.reverse = playL l ∧ addsL (playL (l.drop k)) (playL (l.take k)) = (0, playL l) := by
  obtain ⟨a1, -, -, a4⟩ := play_ok h hn
  have hr : Low l.reverse := fun x hx => h x (by simpa using hx)
  have hc : Low (l.take k) := fun x hx => h x (List.mem_of_mem_take hx)
  have hd : Low (l.drop k) := fun x hx => h x (List.mem_of_mem_drop hx)
  obtain ⟨b1, -, -, b4⟩ := play_ok hr (by simpa using hn)
  have hlc : (l.take k).length ≤ 50 := by simp; omega
  have hld : (l.drop k).length ≤ 50 := by simp; omega
  obtain ⟨c1, c2, c3, c4⟩ := play_ok hc hlc
  obtain ⟨d1, d2, d3, d4⟩ := play_ok hd hld
  constructor
  · refine look_ext b1.srt a1.srt (fun n => ?_)
    rw [a4, b4]
    exact sp_perm n (List.Perm.flatMap_right _ (List.reverse_perm l))
  · have hlen : (l.take k).length + (l.drop k).length = l.length := by rw [← List.length_append, List.take_append_drop]
    have hm : (playL (l.take k)).length * 54975581388800 ≤ 50 * 54975581388800 := Nat.mul_le_mul_right _ (by omega)
    obtain ⟨l', e1, e2, -, -, e5⟩ := adds_ok (playL (l.take k)) 54975581388800 54975581388800 d1 (fun e he => ⟨c1.nam e he, c3 e he⟩) d3 (by omega) (by omega)
    rw [e1]
    congr 1
    refine look_ext e2.srt a1.srt (fun n => ?_)
    rw [e5, a4, d4, sp_look c1.srt, c4, comb_comm, ← sp_append]
    unfold entsOf
    rw [← List.flatMap_append, List.take_append_drop]
/-- Plain sums. -/
def psum (l : List Ent) : Nat × Nat := l.foldl (fun s e => (s.1 + e.2.1, s.2 + e.2.2)) (0, 0)
theorem psum_take (l : List Ent) (k : Nat) (e : Ent) (he : l[k]? = some e) : psum (l.take (k + 1)) = ((psum (l.take k)).1 + e.2.1, (psum (l.take k)).2 + e.2.2) := by
  unfold psum
  rw [List.take_add_one, he, List.foldl_append]
  rfl
theorem psum_bound : ∀ (l : List Ent) (s : Nat × Nat) (C : Nat), (∀ x ∈ l, x.2.1 ≤ C ∧ x.2.2 ≤ C) → (l.foldl (fun s e => (s.1 + e.2.1, s.2 + e.2.2)) s).1 ≤ s.1 + l.length * C ∧ (l.foldl (fun s e => (s.1 + e.2.1, s.2 + e.2.2)) s).2 ≤ s.2 + l.length * C
  | [], s, C, _ => by simp
  | e :: r, s, C, h => by
    have he := h e (by simp)
    have := psum_bound r (s.1 + e.2.1, s.2 + e.2.2) C (fun x hx => h x (by simp [hx]))
    simp only [List.foldl_cons, List.length_cons, Nat.succ_mul]
    simp only at this
    omega
theorem tot_psum : ∀ (l : List Ent) (s : Nat × Nat) (C : Nat), (∀ x ∈ l, x.2.1 ≤ C ∧ x.2.2 ≤ C) → s.1 + l.length * C ≤ 4503599627370496 → s.2 + l.length * C ≤ 4503599627370496 → l.foldl step s = l.foldl (fun s e => (s.1 + e.2.1, s.2 + e.2.2)) s
  | [], s, C, _, _, _ => rfl
  | e :: r, s, C, h, h1, h2 => by
    have he := h e (by simp)
    simp only [List.foldl_cons, List.length_cons, Nat.succ_mul] at *
    have : step s e = (s.1 + e.2.1, s.2 + e.2.2) := by
      unfold step
      rw [Nat.min_eq_left (by omega), Nat.min_eq_left (by omega)]
    rw [this]
    exact tot_psum r _ C (fun x hx => h x (by simp [hx])) (by simp only; omega) (by simp only; omega)
theorem order_sum {l : List Stp} (h : Low l) (hn : l.length ≤ 50) : tot (playL l) = psum (playL l) ∧ (∀ k, (psum ((playL l).take k)).1 ≤ 4503599627370496 ∧ (psum ((playL l).take k)).2 ≤ 4503599627370496) := by
  obtain ⟨a1, a2, a3, -⟩ := play_ok h hn
  have hm : (playL l).length * 54975581388800 ≤ 50 * 54975581388800 := Nat.mul_le_mul_right _ (by omega)
  refine ⟨tot_psum _ (0, 0) 54975581388800 a3 (by simp only; omega) (by simp only; omega), fun k => ?_⟩
  have hk : ((playL l).take k).length * 54975581388800 ≤ 50 * 54975581388800 := Nat.mul_le_mul_right _ (by simp; omega)
  have := psum_bound ((playL l).take k) (0, 0) 54975581388800 (fun x hx => a3 x (List.mem_of_mem_take hx))
  unfold psum
  simp only at this
  omega
end Go.Proofs.YtgoeiejdcpoaaaaDoor
