/-
  What the table holds behind n Puts and m Rests. Part of the proof of TableFull. No condition beyond the theorems' own hypotheses.
-/
import Derived.Test.YtmphajjaepahkaaK
namespace Go.Proofs.Ytmphajjaepahkaa
open Go.RowKit Go.Maps

theorem sumTo_congr (c c' : Nat → Nat) (h : ∀ j, c j = c' j) : ∀ k, sumTo c k = sumTo c' k
  | 0 => rfl
  | k + 1 => by simp only [sumTo, sumTo_congr c c' h k, h k]
theorem sumTo_upd (c : Nat → Nat) (s d : Nat) : ∀ k, sumTo (fun j => if j = s then c s + d else c j) k = sumTo c k + if s < k then d else 0
  | 0 => rfl
  | k + 1 => by
    simp only [sumTo, sumTo_upd c s d k]
    by_cases e : k = s
    · subst e; simp; omega
    · simp only [if_neg e]
      by_cases h : s < k
      · rw [if_pos h, if_pos (by omega)]; omega
      · rw [if_neg h, if_neg (by omega)]; omega

def pv (a j : Int) : Value := .agg #[.int .u32 1, .int .u16 a, .int .u32 2, .int .u16 j]
def keyP (a j : Int) : Lit := .string (keyBytes [.int .u32 1, .int .u16 a, .int .u32 2, .int .u16 j])
theorem wf16 (a : Int) (h0 : 0 ≤ a) (h1 : a ≤ 65535) : (Lit.int .u16 a).wf = true := by
  simp [Lit.wf, IntKind.min, IntKind.max, IntKind.signed, IntKind.bits]
  omega
theorem key_pv (a j : Int) (h0 : 0 ≤ a) (h1 : a ≤ 65535) (g0 : 0 ≤ j) (g1 : j ≤ 65535) : keyOf Try.prog 31 (pv a j) = some (keyP a j) :=
  key31 1 a 2 j (by decide) (wf16 a h0 h1) (by decide) (wf16 j g0 g1)
theorem keyP_inj {a j a' j' : Int} (h0 : 0 ≤ a) (h1 : a ≤ 65535) (g0 : 0 ≤ j) (g1 : j ≤ 65535) (h0' : 0 ≤ a') (h1' : a' ≤ 65535) (g0' : 0 ≤ j') (g1' : j' ≤ 65535) (h : keyP a j = keyP a' j') : a = a' ∧ j = j' := by
  have e := law31.inj (key_pv a j h0 h1 g0 g1) (h ▸ key_pv a' j' h0' h1' g0' g1')
  simpa [pv] using e

theorem insert_perm (x : Lit × DV) : ∀ l : List (Lit × DV), (DataW.insert x l).Perm (x :: l)
  | [] => List.Perm.refl _
  | p :: r => by
    unfold DataW.insert
    split
    · exact List.Perm.refl _
    · exact ((insert_perm x r).cons p).trans (List.Perm.swap x p r)
theorem put_perm {es : List (Lit × DV)} {kl : Lit} (d : DV) (h : Maps.has (.map es) kl = false) : ∃ es', (DataW.map es).put kl d = .map es' ∧ es'.Perm ((kl, d) :: es) := by
  refine ⟨_, rfl, (insert_perm _ _).trans ?_⟩
  have : es.filter (fun p => !p.1.sameKey kl) = es := by
    rw [List.filter_eq_self]
    intro p hp
    have h' : (es.any fun p => p.1.sameKey kl) = false := h
    rw [List.any_eq_false] at h'
    simpa using h' p hp
  rw [this]

def conn (j : Nat) : DV := .held (.agg #[.int .u64 ((j : Int) + 1), .int .i64 0])
def rst : DV := .held (.agg #[.int .u64 0, .int .i64 50])
/-- What the table holds behind n Puts and m Rests. -/
def Cnt (D : Nat → DV) (n m : Nat) : Prop :=
  ∃ es : Nat → List (Lit × DV), (∀ s, D s = .map (es s)) ∧ (∀ s, ∀ p ∈ es s, (∃ j : Nat, j < n ∧ p = (keyP 1 j, conn j)) ∨ (∃ j : Nat, j < m ∧ p = (keyP 2 j, rst))) ∧ sumTo (fun s => (es s).countP (fun p => expired 50 p.1 p.2)) 8 = m
theorem cnt0 : Cnt (fun _ => .map []) 0 0 := ⟨fun _ => [], fun _ => rfl, fun _ p hp => by simp at hp, rfl⟩
theorem Cnt.no1 {D : Nat → DV} {n m : Nat} (h : Cnt D n m) (hn : n ≤ 1024) (hm : m ≤ 1024) (i : Nat) (hi : n ≤ i) (hi1 : i ≤ 65535) (s : Nat) : Maps.has (D s) (keyP 1 i) = false := by
  obtain ⟨es, hD, hk, -⟩ := h
  rw [hD]
  show ((es s).any fun p => p.1.sameKey (keyP 1 i)) = false
  rw [List.any_eq_false]
  intro p hp
  have : p.1 ≠ keyP 1 i := by
    rcases hk s p hp with ⟨j, hj, rfl⟩ | ⟨j, hj, rfl⟩
    · intro e
      have := (keyP_inj (by omega) (by omega) (by omega) (by omega) (by omega) (by omega) (by omega) (by omega) e).2
      omega
    · intro e
      have := (keyP_inj (by omega) (by omega) (by omega) (by omega) (by omega) (by omega) (by omega) (by omega) e).1
      omega
  simp [sameKey_ne this]
theorem Cnt.no2 {D : Nat → DV} {n m : Nat} (h : Cnt D n m) (hn : n ≤ 1024) (hm : m ≤ 1024) (i : Nat) (hi : m ≤ i) (hi1 : i ≤ 65535) (s : Nat) : Maps.has (D s) (keyP 2 i) = false := by
  obtain ⟨es, hD, hk, -⟩ := h
  rw [hD]
  show ((es s).any fun p => p.1.sameKey (keyP 2 i)) = false
  rw [List.any_eq_false]
  intro p hp
  have : p.1 ≠ keyP 2 i := by
    rcases hk s p hp with ⟨j, hj, rfl⟩ | ⟨j, hj, rfl⟩
    · intro e
      have := (keyP_inj (by omega) (by omega) (by omega) (by omega) (by omega) (by omega) (by omega) (by omega) e).1
      omega
    · intro e
      have := (keyP_inj (by omega) (by omega) (by omega) (by omega) (by omega) (by omega) (by omega) (by omega) e).2
      omega
  simp [sameKey_ne this]
theorem upd_count {es : Nat → List (Lit × DV)} {s : Nat} {es' : List (Lit × DV)} {kl : Lit} {d : DV} (hs : s < 8) (hp : es'.Perm ((kl, d) :: es s)) :
    sumTo (fun k => (if k = s then es' else es k).countP (fun p => expired 50 p.1 p.2)) 8 = sumTo (fun s => (es s).countP (fun p => expired 50 p.1 p.2)) 8 + if expired 50 kl d then 1 else 0 := by
  have e1 := sumTo_upd (fun s => (es s).countP (fun p => expired 50 p.1 p.2)) s (if expired 50 kl d then 1 else 0) 8
  rw [if_pos hs] at e1
  rw [← e1]
  refine sumTo_congr _ _ (fun j => ?_) 8
  by_cases e : j = s
  · subst e
    simp only [if_true]
    rw [hp.countP_eq, List.countP_cons]
  · simp only [if_neg e]
theorem Cnt.put {D : Nat → DV} {n m : Nat} (h : Cnt D n m) (hn : n ≤ 1024) (hm : m ≤ 1024) {s : Nat} (hs : s < 8) : Cnt (upd D s ((D s).put (keyP 1 n) (conn n))) (n + 1) m := by
  have hno := h.no1 hn hm n (Nat.le_refl _) (by omega) s
  obtain ⟨es, hD, hk, hc⟩ := h
  rw [hD] at hno
  obtain ⟨es', he, hp⟩ := put_perm (conn n) hno
  refine ⟨fun k => if k = s then es' else es k, fun k => ?_, fun k p hpm => ?_, ?_⟩
  · unfold upd
    by_cases e : k = s
    · simp only [if_pos e]; rw [hD, he]
    · simp only [if_neg e]; exact hD k
  · by_cases e : k = s
    · subst e
      simp only [if_true] at hpm
      rcases List.mem_cons.1 (hp.mem_iff.1 hpm) with rfl | hm'
      · exact .inl ⟨n, by omega, rfl⟩
      · rcases hk k p hm' with ⟨j, hj, e⟩ | h
        · exact .inl ⟨j, by omega, e⟩
        · exact .inr h
    · simp only [if_neg e] at hpm
      rcases hk k p hpm with ⟨j, hj, e⟩ | h
      · exact .inl ⟨j, by omega, e⟩
      · exact .inr h
  · rw [upd_count hs hp, hc]
    have : expired 50 (keyP 1 n) (conn n) = false := by
      simp [expired, conn]
      omega
    rw [this]
    rfl
theorem Cnt.rest {D : Nat → DV} {n m : Nat} (h : Cnt D n m) (hn : n ≤ 1024) (hm : m ≤ 1024) {s : Nat} (hs : s < 8) : Cnt (upd D s ((D s).put (keyP 2 m) rst)) n (m + 1) := by
  have hno := h.no2 hn hm m (Nat.le_refl _) (by omega) s
  obtain ⟨es, hD, hk, hc⟩ := h
  rw [hD] at hno
  obtain ⟨es', he, hp⟩ := put_perm rst hno
  refine ⟨fun k => if k = s then es' else es k, fun k => ?_, fun k p hpm => ?_, ?_⟩
  · unfold upd
    by_cases e : k = s
    · simp only [if_pos e]; rw [hD, he]
    · simp only [if_neg e]; exact hD k
  · by_cases e : k = s
    · subst e
      simp only [if_true] at hpm
      rcases List.mem_cons.1 (hp.mem_iff.1 hpm) with rfl | hm'
      · exact .inr ⟨m, by omega, rfl⟩
      · rcases hk k p hm' with h | ⟨j, hj, e⟩
        · exact .inl h
        · exact .inr ⟨j, by omega, e⟩
    · simp only [if_neg e] at hpm
      rcases hk k p hpm with h | ⟨j, hj, e⟩
      · exact .inl h
      · exact .inr ⟨j, by omega, e⟩
  · rw [upd_count hs hp, hc]
    have : expired 50 (keyP 2 m) rst = true := by simp [expired, rst]
    rw [this]
    rfl
theorem Cnt.shaped {es : Nat → List (Lit × DV)} {n m : Nat} (hn : n ≤ 1024) (hm : m ≤ 1024) (hk : ∀ s, ∀ p ∈ es s, (∃ j : Nat, j < n ∧ p = (keyP 1 j, conn j)) ∨ (∃ j : Nat, j < m ∧ p = (keyP 2 j, rst))) (s : Nat) : Shaped (es s) := by
  intro p hp
  rcases hk s p hp with ⟨j, hj, rfl⟩ | ⟨j, hj, rfl⟩
  · exact ⟨⟨1, 1, 2, j, key_pv 1 j (by omega) (by omega) (by omega) (by omega)⟩, _, _, rfl⟩
  · exact ⟨⟨1, 2, 2, j, key_pv 2 j (by omega) (by omega) (by omega) (by omega)⟩, _, _, rfl⟩
end Go.Proofs.Ytmphajjaepahkaa
