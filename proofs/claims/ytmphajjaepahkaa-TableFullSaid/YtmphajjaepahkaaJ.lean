/-
  maps.DeleteFunc with the closure of (*Table).Old. Part of the proof of TableFull. No condition beyond the theorems' own hypotheses.
-/
import Derived.Test.YtmphajjaepahkaaI
import Derived.Maps.RangeWalk
namespace Go.Proofs.Ytmphajjaepahkaa
open Go.RowKit Go.Maps

structure Two (a c : Nat) (w w' : World) : Prop where
  os : w'.os = w.os
  tape : w'.tape = w.tape
  output : w'.output = w.output
  size : w.heap.size ≤ w'.heap.size
  block : ∀ k, k < w.heap.size → k ≠ a → k ≠ c → w'.heap[k]? = w.heap[k]?
theorem Two.grown {a c r : Nat} {w w1 w2 : World} (h : Two a c w w1) (hg : w1.grownBy w2 (some r)) (hr : r = a ∨ r = c ∨ w.heap.size ≤ r) : Two a c w w2 :=
  ⟨hg.os.trans h.os, hg.tape.trans h.tape, hg.output.trans h.output, Nat.le_trans h.size hg.size, fun k hk h1 h2 => (hg.block k (Nat.lt_of_lt_of_le hk h.size) (by simp; omega)).trans (h.block k hk h1 h2)⟩
theorem Two.below {a c : Nat} {w w1 w2 : World} (h : Two a c w w1) (hg : Below w1.heap.size w1 w2) : Two a c w w2 :=
  ⟨hg.os.trans h.os, hg.tape.trans h.tape, hg.output.trans h.output, Nat.le_trans h.size hg.size, fun k hk h1 h2 => (hg.block k (Nat.lt_of_lt_of_le hk h.size)).trans (h.block k hk h1 h2)⟩
theorem Two.cell {a c : Nat} {w w1 : World} (h : Two a c w w1) {k i : Nat} {v : Value} (hc : w.cell? ⟨k, i, none⟩ = some v) (h1 : k ≠ a) (h2 : k ≠ c) : w1.cell? ⟨k, i, none⟩ = some v :=
  (World.cell?_of_block (w := w) (h.block k (World.block_lt_of_cell? _ _ hc) h1 h2)).trans hc
theorem grown_of_below {w w' : World} (h : Below w.heap.size w w') : w.grownBy w' none := ⟨h.os, h.tape, h.output, h.size, fun k hk _ => h.block k hk⟩

/-- A range over a map's step, where the keys that are left and their elements are known to have a shape. -/
theorem next_shaped {α β : Type} {P : Program} (w : World) {ops : Array Oper} {rest : List Oper} {o : Oper} {a : Act} {Q : Exit → Act → World → Prop} (hg : o.guard = none) (it : Operand) (hop : o.op = Op.next it false) (k : TypeId) (K : Keyed P k) (mkK : α → Value) (mkV : β → Value)
    (b r n : Nat) (D : DV) (left : Lit → Bool) (cnt : Nat)
    (inv : ∀ key kl v, keyOf P k key = some kl → left kl = true → (∀ zd, D.atKey kl zd = .held v) → (∃ x, key = mkK x) ∧ ∃ c, v = mkV c)
    (hit : a.eval it = .pointer (some ⟨r, 0, none⟩)) (h : w.ranges P k RH b r n D left cnt)
    (hDone : cnt = 0 → (∀ kl, left kl = false) → wpList P ops Q rest (a.put o.dst (.tuple #[.bool false])) w)
    (hMore : ∀ (key v : Value) (kl : Lit) (w' : World) (cnt' : Nat), Hid ((∃ x, key = mkK x) ∧ ∃ c, v = mkV c) → keyOf P k key = some kl → left kl = true → (∀ zd, D.atKey kl zd = .held v) → w'.ranges P k RH b r n D (fun z => left z && !z.sameKey kl) cnt' → cnt' < cnt →
      w.grownBy w' (some r) → w'.heap.size = w.heap.size → (Instr.entry (.pointer (some ⟨r, 0, none⟩))).run P w' = .ok (.tuple #[key, v]) w' → wpList P ops Q rest (a.put o.dst (.tuple #[.bool true, key, v])) w') :
    wpList P ops Q (o :: rest) a w := by
  refine wpList_plain hg fun K' hK' => ?_
  unfold Oper.wp
  rcases h.next K o.type with ⟨h0, hl, hrun⟩ | ⟨key, v, kl, y, w', cnt', hkey, hlk, hv, hat, hrun, hrg, hlt, hgr, hsz, hen⟩
  · simp [execOp, hop, hit, hrun, Result.andThen]
    exact hK' _ _ (hDone h0 hl)
  · have hy : y = (.held v, []) := by simpa [RH] using hv.symm
    subst hy
    simp [execOp, hop, hit, hrun, Result.andThen]
    exact hK' _ _ (hMore key v kl w' cnt' (inv key kl v hkey hlk hat) hkey hlk hat hrg hlt hgr hsz hen)

theorem mem_of_at {es : List (Lit × DV)} {kl : Lit} {v : Value} (h : ∀ zd, (DataW.map es : DV).atKey kl zd = .held v) : (kl, .held v) ∈ es := by
  have h1 := h .nil
  unfold DataW.atKey at h1
  simp only at h1
  split at h1
  · rename_i p hp
    have := List.mem_of_find?_eq_some hp
    have hk := List.find?_some hp
    have e := WideAt.sameKey_eq hk
    obtain ⟨p1, p2⟩ := p
    simp at h1 e
    subst h1 e
    exact this
  · cases h1

theorem struck_start (now : Int) (es : List (Lit × DV)) (hk : ∀ p ∈ es, WideAt.IsKeyLit p.1) : struck now es (Maps.has (.map es)) = 0 := by
  unfold struck
  rw [List.countP_eq_zero]
  intro p hp
  have : Maps.has (DataW.map es) p.1 = true := List.any_eq_true.2 ⟨p, hp, WideAt.sameKey_self (hk p hp)⟩
  simp [this]
def mkK4 (x : Int × Int × Int × Int) : Value := .agg #[.int .u32 x.1, .int .u16 x.2.1, .int .u32 x.2.2.1, .int .u16 x.2.2.2]
def mkV2 (x : Int × Int) : Value := .agg #[.int .u64 x.1, .int .i64 x.2]

set_option maxHeartbeats 4000000 in
set_option maxRecDepth 100000 in
theorem delf (Q b bm : Nat) (hb1 : bm ≠ b + 1) (now n m : Int) (es0 : List (Lit × DV)) (w : World) (hown : w.ownsMap Try.prog 31 RH bm Q (.map es0)) (hsh : Shaped es0) (B1 B2 : Nat) (h1b : B1 ≠ b + 1) (h1m : B1 ≠ bm) (h2b : B2 ≠ b + 1) (h2m : B2 ≠ bm)
    (hn : w.cell? ⟨B1, 0, none⟩ = some (.int .i64 now)) (ht : w.cell? ⟨B2, 0, none⟩ = some (.pointer (some ⟨b + 1, 0, none⟩))) (hT : w.heap[b + 1]? = some (.cells (tcells b n m) 47 (0, 0)))
    (hm : (es0.countP (fun p => expired now p.1 p.2) : Int) ≤ m) (hm1 : m ≤ 5000) :
    Calls Try.prog 17 #[.map (some bm), .func (.func 18) #[] #[.pointer (some ⟨B1, 0, none⟩), .pointer (some ⟨B2, 0, none⟩)]] w fun e w' =>
      e = .returned (.tuple #[]) ∧ Two (b + 1) bm w w' ∧ w'.heap[b + 1]? = some (.cells (tcells b n (m - (es0.countP (fun p => expired now p.1 p.2) : Int))) 47 (0, 0)) := by
  obtain ⟨es1, he, hap, hkeys⟩ := hown.entries law31
  obtain rfl : es0 = es1 := by simpa using he
  clear he
  have hbz := (Array.getElem?_eq_some_iff.1 hT).1
  have HT := Lib.hid hT
  have HN := Lib.hid hn
  have HP := Lib.hid ht
  clear hT hn ht
  have eg := enters_of Try.func18 (by kernel_rfl) rfl
  go_enter Try.func17, Try.ntmps17
  go_wp2_with (first
    | (at_range; refine wpList_range_own _ rfl _ 44 rfl 31 50 law31 Try.underlying44 RH bm Q _ rfl hown ?_; intro w0 hrg0 hg0 hs0))
  go_frame
  go_loopw [8] (fun _ wr => ∃ (left : Lit → Bool) (cnt : Nat), wr.ranges Try.prog 31 RH bm w.heap.size Q (Fk (expired now) es0 left) left cnt ∧ Two (b + 1) bm w wr ∧ wr.heap[b + 1]? = some (.cells (tcells b n (m - (struck now es0 left : Int))) 47 (0, 0)))
    (fun _ wr => wr.rangeLeft bm w.heap.size)
  case atStart =>
    refine ⟨_, _, by rw [Fk_start hkeys]; exact hrg0, ⟨hg0.os, hg0.tape, hg0.output, hg0.size, fun k hk _ _ => hg0.block k hk (by simp)⟩, ?_⟩
    rw [struck_start now es0 hkeys]
    simpa using (hg0.block _ hbz (by simp)).trans HT.out
  case round =>
    obtain ⟨left, cnt, hrg, hgw, hTw⟩ := hrel
    have HTw := Lib.hid hTw
    clear hTw
    have hinv : ∀ key kl v, keyOf Try.prog 31 key = some kl → left kl = true → (∀ zd, (Fk (expired now) es0 left).atKey kl zd = .held v) → (∃ x, key = mkK4 x) ∧ ∃ c, v = mkV2 c := by
      intro key kl v hkey hlk hat
      have hmem := (List.mem_filter.1 (mem_of_at hat)).1
      obtain ⟨⟨x0, x1, x2, x3, hx⟩, s, u, hu⟩ := hsh _ hmem
      refine ⟨⟨(x0, x1, x2, x3), law31.inj hkey hx⟩, (s, u), ?_⟩
      simpa [mkV2] using hu
    have HI := Lib.hid hinv
    clear hinv
    go_wp2_with (first
      | (at_next; refine next_shaped _ rfl _ rfl 31 law31 mkK4 mkV2 bm w.heap.size Q _ left cnt HI.out rfl hrg ?_ ?_))
    · intro _ hl0
      go_wp2
      go_end0
      refine ⟨rfl, hgw, ?_⟩
      have := HTw.out
      rw [struck_end now es0 left hl0] at this
      exact this
    · intro key v kl w1 cnt1 hkv hkey hlk hat hrg1 hlt hg1 hs1 hen
      obtain ⟨⟨x0, x1, x2, x3, hx⟩, s, u, hv⟩ := hkv.out
      simp only [mkK4] at hx
      simp only [mkV2] at hv
      subst hx
      subst hv
      have hmem := (List.mem_filter.1 (mem_of_at hat)).1
      have hgw1 := hgw.grown hg1 (Or.inr (Or.inr (Nat.le_refl _)))
      have hi : w.heap.size ≠ b + 1 := by omega
      have hTw1 : w1.heap[b + 1]? = some (.cells (tcells b n (m - (struck now es0 left : Int))) 47 (0, 0)) := (hg1.block _ (Array.getElem?_eq_some_iff.1 HTw.out).1 (by simp; omega)).trans HTw.out
      have hle := struck_le now es0 left
      have hst := struck_step now es0 left kl _ hkeys hap hlk hmem
      have hN1 := hgw1.cell HN.out h1b h1m
      have hP1 := hgw1.cell HP.out h2b h2m
      clear hs1 hkv hmem hrg0 hg0 hs0
      by_cases hex : s = 0 ∧ u ≤ now
      · obtain ⟨rfl, hu⟩ := hex
        have hp : expired now kl (.held (.agg #[.int .u64 0, .int .i64 u])) = true := by simp [expired, hu]
        have hle' : (struck now es0 (fun z => left z && !z.sameKey kl) : Int) ≤ (es0.countP (fun p => expired now p.1 p.2) : Int) := by exact_mod_cast struck_le _ _ _
        rw [hp] at hst
        have hst1 : struck now es0 (fun z => left z && !z.sameKey kl) = struck now es0 left + 1 := by simpa using hst
        have hbz1 : b + 1 < w1.heap.size := Nat.lt_of_lt_of_le hbz hgw1.size
        have hc := fun W (hb : Below w1.heap.size w1 W) => clos_yes b n (m - (struck now es0 left : Int)) u now (by omega) (by omega) hu x0 x1 x2 x3 B1 B2 W ((hb.cell (p := ⟨B1, 0, none⟩) (World.block_lt_of_cell? _ _ hN1)).trans hN1) ((hb.cell (p := ⟨B2, 0, none⟩) (World.block_lt_of_cell? _ _ hP1)).trans hP1) ((hb.block _ (Array.getElem?_eq_some_iff.1 hTw1).1).trans hTw1)
        have HC := Lib.hid hc
        have Hst := Lib.hid hst1
        have Hp := Lib.hid hp
        clear hc hst hst1 hle' hN1 hP1 hTw1 hp
        go_wp2_with (first
          | (go_at_call 18; refine (HC.out _ (by go_grown)).mono ?_; rintro e w2 ⟨rfl, hg2, hT2⟩
             have hrg2 := ((hrg1.alloc _).alloc _).kept hg2 (by simp; omega) (by simp; omega)
             have hblk := hg2.block w1.heap.size (by simp; omega) (by simp; omega)
             have hc0 : w2.cell? ⟨w1.heap.size, 0, none⟩ = some (.int .u32 x0) := (World.cell?_of_block hblk).trans (by simp)
             have hc1 : w2.cell? ⟨w1.heap.size, 1, none⟩ = some (.int .u16 x1) := (World.cell?_of_block hblk).trans (by simp)
             have hc2 : w2.cell? ⟨w1.heap.size, 2, none⟩ = some (.int .u32 x2) := (World.cell?_of_block hblk).trans (by simp)
             have hc3 : w2.cell? ⟨w1.heap.size, 3, none⟩ = some (.int .u16 x3) := (World.cell?_of_block hblk).trans (by simp)
             have hgA : Two (b + 1) bm w w2 := by
               have h1 : w1.grownBy ((w1.alloc (.cells #[.int .u32 x0, .int .u16 x1, .int .u32 x2, .int .u16 x3] 31 (0, 0))).alloc (.cells #[.int .u64 0, .int .i64 u] 50 (0, 0))) none := grown_of_below (by go_grown)
               exact (hgw1.below (by go_grown)).grown hg2 (Or.inl rfl)
             have Hblk := Lib.hid hblk
             have HT2 := Lib.hid hT2
             clear hblk hg2 hT2)
          | (at_delete; refine wpList_delete_ranges _ rfl _ _ 44 31 rfl 50 law31 Try.underlying44 RH bm w.heap.size Q _ _ _ rfl hrg2 _ _ rfl hkey ?_; intro w3 cnt3 hrg3 hle3 hturn; go_frame))
        rw [strike_twice] at hrg3
        have hgB := hgA.grown hturn.grown (Or.inr (Or.inl rfl))
        have hT3 : w3.heap[b + 1]? = some (.cells (tcells b n (m - (struck now es0 left : Int) - 1)) 47 (0, 0)) := (hturn.grown.block _ (Nat.lt_of_lt_of_le hbz hgA.size) (by simp; omega)).trans HT2.out
        go_roundw
        case rel =>
          refine ⟨_, cnt3, by rw [← Fk_struck hap (law31.key hkey) hlk Hp.out hat]; exact hrg3, hgB, ?_⟩
          rw [Hst.out, hT3]
          congr 3
          simp
          omega
        case measure => rw [hrg3.left_eq, hrg.left_eq]; omega
      · have hs : s ≠ 0 ∨ now < u := by omega
        have hp : expired now kl (.held (.agg #[.int .u64 s, .int .i64 u])) = false := by simp [expired]; omega
        rw [hp] at hst
        have hst1 : struck now es0 (fun z => left z && !z.sameKey kl) = struck now es0 left := by simpa using hst
        have hbz1 : b + 1 < w1.heap.size := Nat.lt_of_lt_of_le hbz hgw1.size
        have hc := fun W (hb : Below w1.heap.size w1 W) => clos_no u now s hs x0 x1 x2 x3 B1 (.pointer (some ⟨B2, 0, none⟩)) W ((hb.cell (p := ⟨B1, 0, none⟩) (World.block_lt_of_cell? _ _ hN1)).trans hN1)
        have HC := Lib.hid hc
        have Hst := Lib.hid hst1
        have Hp := Lib.hid hp
        have HT1 := Lib.hid hTw1
        clear hc hst hst1 hN1 hP1 hTw1 hp hex hs
        go_wp2_with (first
          | (go_at_call 18; refine (HC.out _ (by go_grown)).mono ?_; rintro e w2 ⟨rfl, hg2⟩
             have hrg2 := ((hrg1.alloc _).alloc _).kept (grown_of_below hg2) (by simp) (by simp)
             have hgA : Below w1.heap.size w1 w2 := (((Below.refl _ w1).alloc (Nat.le_refl _) _).alloc (by simp) _).trans (hg2.mono (by simp <;> omega))))
        have hT3 := (hgA.block _ (Array.getElem?_eq_some_iff.1 HT1.out).1).trans HT1.out
        go_roundw
        case rel =>
          refine ⟨_, cnt1, by rw [← Fk_stays hap (law31.key hkey) hlk Hp.out hat]; exact hrg2, hgw1.below hgA, ?_⟩
          rw [Hst.out]
          exact hT3
        case measure => rw [hrg2.left_eq, hrg.left_eq]; exact hlt
end Go.Proofs.Ytmphajjaepahkaa
