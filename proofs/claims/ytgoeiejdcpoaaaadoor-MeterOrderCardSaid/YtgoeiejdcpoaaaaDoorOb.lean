/-
  Walk: stevedorelaw04.MeterOrder returns true. No condition beyond the theorems' own hypotheses.
-/
import Derived.Test.YtgoeiejdcpoaaaaDoorOa
import Derived.Test.YtgoeiejdcpoaaaaDoorPb
import Derived.Test.YtgoeiejdcpoaaaaDoorNj
import Derived.Deep.RegionHeld3
namespace Go.Proofs.YtgoeiejdcpoaaaaDoor
open Go.RowKit Go.Maps Go.WideAt Go.WideShapes Go.Sort Fl

theorem MeterAt.past {w w' : World} {Q p b r : Nat} {l : List Ent} (h : MeterAt w Q p b l) (ht : Turned r w w') (hp : p ≠ r) (hb : b ≠ r) : MeterAt w' Q p b l := by
  obtain ⟨W, h1, h2⟩ := ht
  exact (h.kept h1).other h2 hp hb
theorem Turned.cell {w w' : World} {r b o : Nat} (ht : Turned r w w') (hb : b < w.heap.size) (hne : b ≠ r) : w'.cell? ⟨b, o, none⟩ = w.cell? ⟨b, o, none⟩ := by
  obtain ⟨W, h1, h2⟩ := ht
  exact (World.cell?_of_block (h2.block b (Nat.lt_of_lt_of_le hb h1.size) (by simpa using hne))).trans (h1.cell (p := ⟨b, o, none⟩) hb)
/-- Four meters, each behind the one ahead. -/
structure Four (w : World) (n1 n2 n3 : Nat) (W : World) (Q : Nat) (la lb lc ld : List Ent) : Prop where
  a : MeterAt W Q (w.heap.size + 1) w.heap.size la
  b : MeterAt W Q (n1 + 1) n1 lb
  c : MeterAt W Q (n2 + 1) n2 lc
  d : MeterAt W Q (n3 + 1) n3 ld
  h1 : w.heap.size + 1 < n1
  h2 : n1 + 1 < n2
  h3 : n2 + 1 < n3
  bel : Below w.heap.size w W
section
variable {w : World} {n1 n2 n3 : Nat} {W W' : World} {Q : Nat} {la lb lc ld l' : List Ent}
theorem Four.kept (h : Four w n1 n2 n3 W Q la lb lc ld) (hb : Below W.heap.size W W') : Four w n1 n2 n3 W' Q la lb lc ld :=
  ⟨h.a.kept hb, h.b.kept hb, h.c.kept hb, h.d.kept hb, h.h1, h.h2, h.h3, h.bel.trans (hb.mono h.bel.size)⟩
theorem Four.sa (h : Four w n1 n2 n3 W Q la lb lc ld) (hM : MeterAt W' (Q + 1) (w.heap.size + 1) w.heap.size l') (ht : Turned w.heap.size W W') : Four w n1 n2 n3 W' (Q + 1) l' lb lc ld := by
  have h1 := h.h1; have h2 := h.h2; have h3 := h.h3
  exact ⟨hM, (h.b.past ht (by omega) (by omega)).more (by omega), (h.c.past ht (by omega) (by omega)).more (by omega), (h.d.past ht (by omega) (by omega)).more (by omega), h1, h2, h3, h.bel.trans (ht.below (by omega) h.bel.size)⟩
theorem Four.sb (h : Four w n1 n2 n3 W Q la lb lc ld) (hM : MeterAt W' (Q + 1) (n1 + 1) n1 l') (ht : Turned n1 W W') : Four w n1 n2 n3 W' (Q + 1) la l' lc ld := by
  have h1 := h.h1; have h2 := h.h2; have h3 := h.h3
  exact ⟨(h.a.past ht (by omega) (by omega)).more (by omega), hM, (h.c.past ht (by omega) (by omega)).more (by omega), (h.d.past ht (by omega) (by omega)).more (by omega), h1, h2, h3, h.bel.trans (ht.below (by omega) h.bel.size)⟩
theorem Four.sc (h : Four w n1 n2 n3 W Q la lb lc ld) (hM : MeterAt W' (Q + 1) (n2 + 1) n2 l') (ht : Turned n2 W W') : Four w n1 n2 n3 W' (Q + 1) la lb l' ld := by
  have h1 := h.h1; have h2 := h.h2; have h3 := h.h3
  exact ⟨(h.a.past ht (by omega) (by omega)).more (by omega), (h.b.past ht (by omega) (by omega)).more (by omega), hM, (h.d.past ht (by omega) (by omega)).more (by omega), h1, h2, h3, h.bel.trans (ht.below (by omega) h.bel.size)⟩
theorem Four.sd (h : Four w n1 n2 n3 W Q la lb lc ld) (hM : MeterAt W' (Q + 1) (n3 + 1) n3 l') (ht : Turned n3 W W') : Four w n1 n2 n3 W' (Q + 1) la lb lc l' := by
  have h1 := h.h1; have h2 := h.h2; have h3 := h.h3
  exact ⟨(h.a.past ht (by omega) (by omega)).more (by omega), (h.b.past ht (by omega) (by omega)).more (by omega), (h.c.past ht (by omega) (by omega)).more (by omega), hM, h1, h2, h3, h.bel.trans (ht.below (by omega) h.bel.size)⟩
end
theorem ptrs_one (w : World) (p : Nat) (t : TypeId) : PtrsAt (w.alloc (.cells #[.pointer (some ⟨p, 0, none⟩)] t)) w.heap.size [some p] := by
  refine ⟨by simp, fun k x hx => ?_⟩
  rw [World.cell?_alloc_new w #[.pointer (some ⟨p, 0, none⟩)] t k]
  match k, hx with
  | 0, hx => simp at hx; subst hx; rfl
  | k + 1, hx => simp at hx
theorem neq32 (a b : Nat) (ha : a < 2 ^ 53) (hb : b < 2 ^ 53) (w : World) : (binOp .neq 32 (.complex .f64 (Fl.W a) (Fl.W b)) (.complex .f64 (Fl.W a) (Fl.W b))).run Tryd.prog w = .ok (.bool false) w := by
  have h1 := ord_eq a a ha ha
  have h2 := ord_eq b b hb hb
  simp only [decide_true] at h1 h2
  simp [binOp, Op.equal, Op.equalIn, Op.maxDepth, Op.complexOp, Op.Complex.cmp, Op.floatCmp, asBool, h1, h2]
theorem eql32 (a b : Nat) (ha : a < 2 ^ 53) (hb : b < 2 ^ 53) (w : World) : (binOp .eql 32 (.complex .f64 (Fl.W a) (Fl.W b)) (.complex .f64 (Fl.W a) (Fl.W b))).run Tryd.prog w = .ok (.bool true) w := by
  have h1 := ord_eq a a ha ha
  have h2 := ord_eq b b hb hb
  simp only [decide_true] at h1 h2
  simp [binOp, Op.equal, Op.equalIn, Op.maxDepth, Op.complexOp, Op.Complex.cmp, Op.floatCmp, asBool, h1, h2]
/-- Three meters that hold the same. -/
structure Tri (w W : World) (Q Q' n1 n3 b' : Nat) (L : List Ent) : Prop where
  a : MeterAt W Q (w.heap.size + 1) w.heap.size L
  b : MeterAt W Q (n1 + 1) n1 L
  d : MeterAt W Q' (n3 + 1) b' L
  bel : Below w.heap.size w W
theorem Tri.kept {w W W' : World} {Q Q' n1 n3 b' : Nat} {L : List Ent} (h : Tri w W Q Q' n1 n3 b' L) (hb : Below W.heap.size W W') : Tri w W' Q Q' n1 n3 b' L := ⟨h.a.kept hb, h.b.kept hb, h.d.kept hb, h.bel.trans (hb.mono h.bel.size)⟩
theorem Four.join {w : World} {n1 n2 n3 : Nat} {W W' : World} {Q : Nat} {L lc ld : List Ent} {e : Ending} (h : Four w n1 n2 n3 W Q L L lc ld) (hp : addsL ld lc = (0, L)) (hj : JoinEnds W (n3 + 1) n3 ld lc e W') : e = .returned (.int .i64 0) ∧ ∃ b' Q', Tri w W' Q Q' n1 n3 b' L := by
  obtain ⟨b', Q', he, hM, hg, -⟩ := hj
  have h1 := h.h1; have h2 := h.h2; have h3 := h.h3
  have hs := h.bel.size
  rw [hp] at he
  refine ⟨he, b', Q', h.a.other hg (by omega) (by omega), h.b.other hg (by omega) (by omega), ?_, h.bel.grown hg hs (fun k e => by cases e; omega)⟩
  unfold joinL at hM
  rw [hp, if_pos rfl] at hM
  exact hM
set_option maxHeartbeats 6400000 in
set_option maxRecDepth 40000 in
theorem order_any (A : Option Addr) (cap : Nat) (l : List Stp) (hl : l.length ≤ maxLen) (hz : ∀ x ∈ l, x.1.size ≤ reachBytes) (c : Int) (c0 : 0 ≤ c) (c1 : c ≤ 255) (w : World) (hS : StepsAt w A l) :
    Calls Tryd.prog 5 #[.slice A l.length cap, .int .u8 c] w fun e w' => e = .returned (.bool true) ∧ Below w.heap.size w w' := by
  have HH := Lib.hid (heavy_any A cap l hl hz w hS)
  have HS := Lib.hid hS
  clear hl hz hS
  by_cases hn : l.length ≤ 50
  · have hn' : decide ((50 : Int) < (l.length : Int)) = false := by simp; omega
    go_enter Tryd.func5, Tryd.ntmps5
    go_wp2_with (first
      | (go_at_call 8; refine (works_any _).mono ?_; rintro e w9 ⟨rfl, hb9⟩; have HB9 := Lib.hid hb9; clear hb9)
      | (go_at_call 7; refine HH.out.mono ?_; rintro e w' ⟨⟨b, rfl, hb⟩, rfl⟩; cases b; clear hb))
    · go_loop [5] (fun u => ∃ k : Nat, k ≤ l.length ∧ u = .int .i64 k ∧ Hid (Low (l.take k))) (fun u => l.length - (intOf u).toNat)
      case atStart => exact ⟨0, Nat.zero_le _, rfl, Lib.hid (fun x hx => by simp at hx)⟩
      case round =>
        obtain ⟨k, hk, rfl, hlow⟩ := hrel
        by_cases hlt : k < l.length
        · have hk1 : (k : Int) < (l.length : Int) := by omega
          have hk0 : (0 : Int) ≤ (k : Int) := by omega
          obtain ⟨x, hx⟩ : ∃ e, l[k]? = some e := ⟨l[k], List.getElem?_eq_getElem hlt⟩
          obtain ⟨bS, off, rfl, hbS, z0, z1, z2⟩ := HS.out.at_ k x hx
          have HMY := Lib.hid (rmay_any x.1 (HS.out.str x (List.mem_of_getElem? hx)))
          have htk : l.take (k + 1) = l.take k ++ [x] := by rw [List.take_add_one, hx]; rfl
          have HTK := Lib.hid htk
          clear hx htk
          by_cases h1 : x.2.1 ≤ 1099511627776
          · have h1' : decide (1099511627776 < x.2.1) = false := by simp; omega
            by_cases h2 : x.2.2 ≤ 1099511627776
            · have h2' : decide (1099511627776 < x.2.2) = false := by simp; omega
              have HLW : Hid (Low (l.take (k + 1))) := Lib.hid (fun y hy => by
                rw [HTK.out] at hy
                rcases List.mem_append.1 hy with hy | hy
                · exact hlow.out y hy
                · obtain rfl := List.mem_singleton.1 hy
                  exact ⟨h1, h2⟩)
              clear h1 h2
              cases hm : mayB x.1.data.toList
              · have HM := Lib.hid hm
                clear hm
                go_wp2_with (first
                  | (go_at_call 8; refine (works_any _).mono ?_; rintro e w9 ⟨rfl, hb9⟩; have HB9 := Lib.hid hb9; clear hb9)
                  | (go_at_call 16; refine (HMY.out _).mono ?_; rintro e w' ⟨rfl, rfl⟩; rw [HM.out]))
                go_ret
                exact ⟨rfl, HB9.out⟩
              · have HM := Lib.hid hm
                clear hm
                go_wp2_with (go_at_call 16; refine (HMY.out _).mono ?_; rintro e w' ⟨rfl, rfl⟩; rw [HM.out])
                go_round
                case rel => exact ⟨k + 1, by omega, by go_num, HLW⟩
                case measure => simp [intOf]; omega
            · have h2' : 1099511627776 < x.2.2 := by omega
              clear h1 h2
              go_wp2_with (go_at_call 8; refine (works_any _).mono ?_; rintro e w9 ⟨rfl, hb9⟩; have HB9 := Lib.hid hb9; clear hb9)
              go_ret
              exact ⟨rfl, HB9.out⟩
          · have h1' : 1099511627776 < x.2.1 := by omega
            clear h1
            go_wp2_with (go_at_call 8; refine (works_any _).mono ?_; rintro e w9 ⟨rfl, hb9⟩; have HB9 := Lib.hid hb9; clear hb9)
            go_ret
            exact ⟨rfl, HB9.out⟩
        · obtain rfl : k = l.length := by omega
          clear hlt
          rw [List.take_length] at hlow
          obtain ⟨k0, hk0e, hk0l⟩ : ∃ k0 : Nat, c % ((l.length : Int) + 1) = (k0 : Int) ∧ k0 ≤ l.length := (by
            have e1 := Int.emod_nonneg c (show (l.length : Int) + 1 ≠ 0 by omega)
            have e2 := Int.emod_lt_of_pos c (show (0 : Int) < (l.length : Int) + 1 by omega)
            exact ⟨(c % ((l.length : Int) + 1)).toNat, by omega, by omega⟩)
          go_wp2_with (first
            | (go_at_call 17; have hq := HM3; clear hq; refine (new_any _).mono ?_; rintro e w4 ⟨rfl, hM4, hb4⟩; have HF : Hid (Four w w1.heap.size w2.heap.size w3.heap.size w4 (3 * 0) [] [] [] []) := Lib.hid ⟨((HM1.out.kept HB2.out).kept HB3.out).kept hb4, (HM2.out.kept HB3.out).kept hb4, HM3.out.kept hb4, hM4, HM1.out.lt, HM2.out.lt, HM3.out.lt, ((HB1.out.trans (HB2.out.mono HB1.out.size)).trans (HB3.out.mono (Nat.le_trans HB1.out.size HB2.out.size))).trans (hb4.mono (Nat.le_trans HB1.out.size (Nat.le_trans HB2.out.size HB3.out.size)))⟩; clear hM4 hb4)
            | (go_at_call 17; have hq := HM2; clear hq; refine (new_any _).mono ?_; rintro e w3 ⟨rfl, hM3, hb3⟩; have HM3 := Lib.hid hM3; have HB3 := Lib.hid hb3; clear hM3 hb3)
            | (go_at_call 17; have hq := HM1; clear hq; refine (new_any _).mono ?_; rintro e w2 ⟨rfl, hM2, hb2⟩; have HM2 := Lib.hid hM2; have HB2 := Lib.hid hb2; clear hM2 hb2)
            | (go_at_call 17; refine (new_any _).mono ?_; rintro e w1 ⟨rfl, hM1, hb1⟩; have HM1 := Lib.hid hM1; have HB1 := Lib.hid hb1; clear hM1 hb1))
          go_loopw [10] (fun u wr => ∃ k : Nat, k ≤ l.length ∧ u = .int .i64 k ∧ Hid (Four w w1.heap.size w2.heap.size w3.heap.size wr (3 * k) (playL (l.take k)) (playL (l.reverse.take k)) (playL ((l.take k0).take k)) (playL ((l.drop k0).take (k - k0)))))
            (fun u _ => l.length - (intOf u).toNat)
          case atStart => exact ⟨0, Nat.zero_le _, rfl, Lib.hid (by simpa [playL] using HF.out)⟩
          case round =>
            obtain ⟨k, hk, rfl, hF⟩ := hrel
            by_cases hlt : k < l.length
            · have hk1 : (k : Int) < (l.length : Int) := by omega
              have hk0 : (0 : Int) ≤ (k : Int) := by omega
              obtain ⟨x, hx⟩ : ∃ e, l[k]? = some e := ⟨l[k], List.getElem?_eq_getElem hlt⟩
              obtain ⟨m, hm⟩ : ∃ m : Nat, m = l.length - 1 - k := ⟨_, rfl⟩
              have hml : m < l.length := by omega
              obtain ⟨y, hy⟩ : ∃ e, l[m]? = some e := ⟨l[m], List.getElem?_eq_getElem hml⟩
              have hry : l.reverse[k]? = some y := by rw [List.getElem?_reverse hlt, ← hm, hy]
              obtain ⟨bS, off, rfl, hbS, z0, z1, z2⟩ := HS.out.at_ k x hx
              obtain ⟨bT, off', hAA, -, t0, t1, t2⟩ := HS.out.at_ m y hy
              obtain ⟨rfl, rfl⟩ : bS = bT ∧ off = off' := by injection hAA with h; injection h with h1 h2; exact ⟨h1, h2⟩
              have hmi : (l.length : Int) - 1 - (k : Int) = (m : Int) := by omega
              have hm1 : (m : Int) < (l.length : Int) := by omega
              have hm0 : (0 : Int) ≤ (m : Int) := by omega
              have hup : ∀ W, Below w.heap.size w W → W.cell? ⟨bS, off + k * 3, none⟩ = some (.string x.1) ∧ W.cell? ⟨bS, off + k * 3 + 1, none⟩ = some (.int .i64 x.2.1) ∧ W.cell? ⟨bS, off + k * 3 + 2, none⟩ = some (.int .i64 x.2.2) := fun W hW =>
                ⟨(hW.cell (p := ⟨bS, _, none⟩) hbS).trans z0, (hW.cell (p := ⟨bS, _, none⟩) hbS).trans z1, (hW.cell (p := ⟨bS, _, none⟩) hbS).trans z2⟩
              have hupt : ∀ W, Below w.heap.size w W → W.cell? ⟨bS, off + m * 3, none⟩ = some (.string y.1) ∧ W.cell? ⟨bS, off + m * 3 + 1, none⟩ = some (.int .i64 y.2.1) ∧ W.cell? ⟨bS, off + m * 3 + 2, none⟩ = some (.int .i64 y.2.2) := fun W hW =>
                ⟨(hW.cell (p := ⟨bS, _, none⟩) hbS).trans t0, (hW.cell (p := ⟨bS, _, none⟩) hbS).trans t1, (hW.cell (p := ⟨bS, _, none⟩) hbS).trans t2⟩
              obtain ⟨u0, u1, u2⟩ := hupt wr hF.out.bel
              have HUP := Lib.hid hup
              have hQ : 3 * k < 1000000 := by omega
              have HTA := Lib.hid (playL_take l k x hx)
              have HTB := Lib.hid (playL_take l.reverse k y hry)
              have HAA := Lib.hid (fun W h => madd_any (3 * k) (w.heap.size + 1) w.heap.size hQ (playL (l.take k)) (good_playL _) W h x.1 x.2.1 x.2.2)
              have HAB := Lib.hid (fun W h => madd_any (3 * k + 1) (w1.heap.size + 1) w1.heap.size (by omega) (playL (l.reverse.take k)) (good_playL _) W h y.1 y.2.1 y.2.2)
              have HX := Lib.hid hx
              clear hry hx hy hAA z0 z1 z2 t0 t1 t2 hup hupt hm
              by_cases hkk : k < k0
              · have hkk' : k < k0 := hkk
                have HTC := Lib.hid (playL_take (l.take k0) k x (by rw [List.getElem?_take, if_pos hkk]; exact HX.out))
                have HTD : Hid ((l.drop k0).take (k + 1 - k0) = (l.drop k0).take (k - k0)) := Lib.hid (by rw [show k + 1 - k0 = 0 by omega, show k - k0 = 0 by omega])
                have HAC := Lib.hid (fun W h => madd_any (3 * k + 2) (w2.heap.size + 1) w2.heap.size (by omega) (playL ((l.take k0).take k)) (good_playL _) W h x.1 x.2.1 x.2.2)
                clear hkk
                go_wp2_with fail
                go_region_held3 (fun w' => w'.cell? ⟨bS, off + k * 3, none⟩ = some (.string x.1) ∧ w'.cell? ⟨bS, off + k * 3 + 1, none⟩ = some (.int .i64 x.2.1) ∧ w'.cell? ⟨bS, off + k * 3 + 2, none⟩ = some (.int .i64 x.2.2))
                  (first | exact HUP.out _ (hF.out.bel.alloc hF.out.bel.size _).drew | exact HUP.out w5 HF5.out.bel)
                  (first
                    | (go_at_call 18; refine (HAA.out _ (hF.out.kept ((Below.refl _ _).alloc (Nat.le_refl _) _).drew).a).mono ?_; rintro e w5 ⟨rfl, hM5, ht5⟩; have HF5 := Lib.hid ((hF.out.kept ((Below.refl _ _).alloc (Nat.le_refl _) (.cells #[.string y.1, .int .i64 y.2.1, .int .i64 y.2.2] 42)).drew).sa hM5 ht5); have hbx : ∀ j u, (#[Value.string y.1, .int .i64 y.2.1, .int .i64 y.2.2])[j]? = some u → w5.cell? ⟨wr.heap.size, j, none⟩ = some u := (fun j u h => (ht5.cell (by simp) (by have := hF.out.bel.size; have := hF.out.a.lt; omega)).trans ((World.cell?_alloc_new wr #[Value.string y.1, .int .i64 y.2.1, .int .i64 y.2.2] 42 j).trans h)); have g0 := hbx 0 _ rfl; have g1 := hbx 1 _ rfl; have g2 := hbx 2 _ rfl; clear hM5 ht5 hbx))
                go_wp2_with (go_at_call 18; refine (HAB.out _ HF5.out.b).mono ?_; rintro e w6 ⟨rfl, hM6, ht6⟩; have HF6 := Lib.hid (HF5.out.sb hM6 ht6); clear hM6 ht6)
                go_region_held3 (fun w' => w'.cell? ⟨bS, off + k * 3, none⟩ = some (.string x.1) ∧ w'.cell? ⟨bS, off + k * 3 + 1, none⟩ = some (.int .i64 x.2.1) ∧ w'.cell? ⟨bS, off + k * 3 + 2, none⟩ = some (.int .i64 x.2.2))
                  (first | exact HUP.out w6 HF6.out.bel | exact HUP.out w7 HF7.out.bel)
                  (first
                    | (go_at_call 18; refine (HAC.out _ (HF6.out.kept (Below.refl _ _).drew).c).mono ?_; rintro e w7 ⟨rfl, hM7, ht7⟩; have HF7 := Lib.hid ((HF6.out.kept (Below.refl _ _).drew).sc hM7 ht7); clear hM7 ht7))
                go_wp2
                go_roundw
                case rel => exact ⟨k + 1, by omega, by go_num, Lib.hid (by rw [HTA.out, HTB.out, HTC.out, HTD.out]; exact HF7.out)⟩
                case measure => simp [intOf]; omega
              · have hkk' : decide (k < k0) = false := by simp; omega
                have HTC : Hid ((l.take k0).take (k + 1) = (l.take k0).take k) := Lib.hid (by rw [List.take_take, List.take_take, Nat.min_eq_right (by omega), Nat.min_eq_right (by omega)])
                have hd : (l.drop k0)[k - k0]? = some x := by rw [List.getElem?_drop, show k0 + (k - k0) = k by omega]; exact HX.out
                have HTD : Hid (playL ((l.drop k0).take (k + 1 - k0)) = (addL (playL ((l.drop k0).take (k - k0))) x.1.data.toList x.2.1 x.2.2).2) := Lib.hid (by rw [show k + 1 - k0 = k - k0 + 1 by omega]; exact playL_take _ _ x hd)
                have HAC := Lib.hid (fun W h => madd_any (3 * k + 2) (w3.heap.size + 1) w3.heap.size (by omega) (playL ((l.drop k0).take (k - k0))) (good_playL _) W h x.1 x.2.1 x.2.2)
                clear hkk hd
                go_wp2_with fail
                go_region_held3 (fun w' => w'.cell? ⟨bS, off + k * 3, none⟩ = some (.string x.1) ∧ w'.cell? ⟨bS, off + k * 3 + 1, none⟩ = some (.int .i64 x.2.1) ∧ w'.cell? ⟨bS, off + k * 3 + 2, none⟩ = some (.int .i64 x.2.2))
                  (first | exact HUP.out _ (hF.out.bel.alloc hF.out.bel.size _).drew | exact HUP.out w5 HF5.out.bel)
                  (first
                    | (go_at_call 18; refine (HAA.out _ (hF.out.kept ((Below.refl _ _).alloc (Nat.le_refl _) _).drew).a).mono ?_; rintro e w5 ⟨rfl, hM5, ht5⟩; have HF5 := Lib.hid ((hF.out.kept ((Below.refl _ _).alloc (Nat.le_refl _) (.cells #[.string y.1, .int .i64 y.2.1, .int .i64 y.2.2] 42)).drew).sa hM5 ht5); have hbx : ∀ j u, (#[Value.string y.1, .int .i64 y.2.1, .int .i64 y.2.2])[j]? = some u → w5.cell? ⟨wr.heap.size, j, none⟩ = some u := (fun j u h => (ht5.cell (by simp) (by have := hF.out.bel.size; have := hF.out.a.lt; omega)).trans ((World.cell?_alloc_new wr #[Value.string y.1, .int .i64 y.2.1, .int .i64 y.2.2] 42 j).trans h)); have g0 := hbx 0 _ rfl; have g1 := hbx 1 _ rfl; have g2 := hbx 2 _ rfl; clear hM5 ht5 hbx))
                go_wp2_with (go_at_call 18; refine (HAB.out _ HF5.out.b).mono ?_; rintro e w6 ⟨rfl, hM6, ht6⟩; have HF6 := Lib.hid (HF5.out.sb hM6 ht6); clear hM6 ht6)
                go_region_held3 (fun w' => w'.cell? ⟨bS, off + k * 3, none⟩ = some (.string x.1) ∧ w'.cell? ⟨bS, off + k * 3 + 1, none⟩ = some (.int .i64 x.2.1) ∧ w'.cell? ⟨bS, off + k * 3 + 2, none⟩ = some (.int .i64 x.2.2))
                  (first | exact HUP.out w6 HF6.out.bel | exact HUP.out w7 HF7.out.bel)
                  (first
                    | (go_at_call 18; refine (HAC.out _ (HF6.out.kept (Below.refl _ _).drew).d).mono ?_; rintro e w7 ⟨rfl, hM7, ht7⟩; have HF7 := Lib.hid ((HF6.out.kept (Below.refl _ _).drew).sd hM7 ht7); clear hM7 ht7))
                go_wp2
                go_roundw
                case rel => exact ⟨k + 1, by omega, by go_num, Lib.hid (by rw [HTA.out, HTB.out, HTC.out, HTD.out]; exact HF7.out)⟩
                case measure => simp [intOf]; omega
            · obtain rfl : k = l.length := by omega
              clear hlt
              obtain ⟨hrev, hjoin⟩ := order_law hlow.out hn k0
              obtain ⟨hsum, hsb⟩ := order_sum hlow.out hn
              have hgL := good_playL l
              have hF2 : Four w w1.heap.size w2.heap.size w3.heap.size wr (3 * l.length) (playL l) (playL l) (playL (l.take k0)) (playL (l.drop k0)) := by
                have h := hF.out
                have e1 : (l.take k0).take l.length = l.take k0 := List.take_of_length_le (by simp; omega)
                have e2 : (l.drop k0).take (l.length - k0) = l.drop k0 := List.take_of_length_le (by simp)
                have e3 : l.reverse.take l.length = l.reverse := List.take_of_length_le (by simp)
                rw [List.take_length, e1, e2, e3, hrev] at h
                exact h
              have hJ : ∀ W, Four w w1.heap.size w2.heap.size w3.heap.size W (3 * l.length) (playL l) (playL l) (playL (l.take k0)) (playL (l.drop k0)) → PtrsAt W wr.heap.size [some (w2.heap.size + 1)] → Calls Tryd.prog 14 #[.pointer (some ⟨w3.heap.size + 1, 0, none⟩), .slice (some ⟨wr.heap.size, 0, none⟩) 1 1] W fun e W' => e = .returned (.int .i64 0) ∧ ∃ b' Q', Tri w W' (3 * l.length) Q' w1.heap.size w3.heap.size b' (playL l) := by
                intro W hW hP
                have hlc := (good_playL (l.take k0)).len
                have := mjoin_any (3 * l.length) (w3.heap.size + 1) w3.heap.size (playL (l.drop k0)) (good_playL _) W hW.d wr.heap.size 1 [⟨3 * l.length, w2.heap.size + 1, w2.heap.size, playL (l.take k0)⟩] (by simp) hP (fun m hm => by
                  obtain rfl := List.mem_singleton.1 hm
                  exact ⟨hW.c, good_playL _⟩) (by simp [flatM]; omega)
                refine this.mono ?_
                intro e W' hj
                have hf : flatM [(⟨3 * l.length, w2.heap.size + 1, w2.heap.size, playL (l.take k0)⟩ : Mtr)] = playL (l.take k0) := by simp [flatM]
                rw [hf] at hj
                exact hW.join hjoin hj
              have HJ := Lib.hid hJ
              have HG := Lib.hid hgL
              have HSUM := Lib.hid hsum
              have HSB := Lib.hid hsb
              have hlen := hgL.len
              clear hJ hgL hsum hsb hjoin hrev hF hk0e
              have htl := tot_le (playL l)
              generalize playL l = L at *
              have hneq := neq32 (tot L).1 (tot L).2 (by omega) (by omega)
              have heql := eql32 (tot L).1 (tot L).2 (by omega) (by omega)
              have HEQL := Lib.hid heql
              clear heql
              have hn49 := neq49
              by_cases hL : L = []
              · have HNZ := Lib.hid hL
                have HL0 : Hid (L.length = 0) := Lib.hid (by rw [hL]; rfl)
                clear hL
                go_wp2_with (first
                  | (go_at_call 20; have hq := HT7; clear hq; refine (total_any _ _ _ L HG.out _ HT7.out.d).mono ?_; rintro e w8 ⟨rfl, hb8⟩; have HT8 := Lib.hid (HT7.out.kept hb8); have HB78 := Lib.hid hb8; clear hb8)
                  | (go_at_call 20; have hq := HT6; clear hq; refine (total_any _ _ _ L HG.out _ HT6.out.a).mono ?_; rintro e w7 ⟨rfl, hb7⟩; have HT7 := Lib.hid (HT6.out.kept hb7); have HB67 := Lib.hid hb7; clear hb7)
                  | (go_at_call 20; have hq := HT5; clear hq; refine (total_any _ _ _ L HG.out _ HT5.out.b).mono ?_; rintro e w6 ⟨rfl, hb6⟩; have HT6 := Lib.hid (HT5.out.kept hb6); have HB56 := Lib.hid hb6; clear hb6)
                  | (go_at_call 20; have hq := HT4; clear hq; refine (total_any _ _ _ L HG.out _ HT4.out.a).mono ?_; rintro e w5 ⟨rfl, hb5⟩; have HT5 := Lib.hid (HT4.out.kept hb5); have HB45 := Lib.hid hb5; clear hb5)
                  | (go_at_call 19; have hq := HT3; clear hq; refine (all_any _ _ _ L HG.out _ HT3.out.d).mono ?_; rintro e wd ⟨v, rfl, hrow, hnil, hbd⟩; have HT4 := Lib.hid (HT3.out.kept hbd); have HB34 := Lib.hid hbd; obtain rfl := hnil.2 HNZ.out; clear hrow hnil hbd)
                  | (go_at_call 19; have hq := HT2; clear hq; refine (all_any _ _ _ L HG.out _ HT2.out.b).mono ?_; rintro e wc ⟨v, rfl, hrow, hnil, hbc⟩; have HT3 := Lib.hid (HT2.out.kept hbc); have HB23 := Lib.hid hbc; obtain rfl := hnil.2 HNZ.out; clear hrow hnil hbc)
                  | (go_at_call 19; have hq := HT1; clear hq; refine (all_any _ _ _ L HG.out _ HT1.out.a).mono ?_; rintro e wb ⟨v, rfl, hrow, hnil, hbb⟩; have HT2 := Lib.hid (HT1.out.kept hbb); have HB12 := Lib.hid hbb; obtain rfl := hnil.2 HNZ.out; clear hrow hnil hbb)
                  | (go_at_call 14; refine (HJ.out _ (hF2.kept ((Below.refl _ _).alloc (Nat.le_refl _) _)) (ptrs_one wr (w2.heap.size + 1) 25)).mono ?_; rintro e wa ⟨rfl, b5, Q5, ht⟩; have HT1 := Lib.hid ht; clear ht))
                have heq0 : ∀ w, (binOp .eql 32 (.complex .f64 0 0) (.complex .f64 (Fl.W (tot L).1) (Fl.W (tot L).2))).run Tryd.prog w = .ok (.bool true) w := fun w => by
                  have h := eql32 0 0 (by omega) (by omega) w
                  rw [W_zero] at h
                  rw [HNZ.out]
                  show (binOp .eql 32 (.complex .f64 0 0) (.complex .f64 (Fl.W 0) (Fl.W 0))).run Tryd.prog w = _
                  rw [W_zero]
                  exact h
                go_loop [15, 16] (fun v u => v = .complex .f64 0 0 ∧ u = .int .i64 0) (fun _ _ => 0)
                case atStart => exact ⟨rfl, rfl⟩
                case round =>
                  obtain ⟨rfl, rfl⟩ := hrel
                  go_wp2_with (first
                    | (go_at_call 8; refine (works_any _).mono ?_; rintro e wz ⟨rfl, hbz⟩; have HBZ := Lib.hid (HT9.out.bel.trans (hbz.mono HT9.out.bel.size)); clear hbz)
                    | (go_at_call 20; refine (total_any _ _ _ L HG.out _ HT8.out.a).mono ?_; rintro e w9 ⟨rfl, hb9⟩; have HT9 := Lib.hid (HT8.out.kept hb9); clear hb9))
                  go_ret
                  exact ⟨rfl, HBZ.out⟩
              · have HNZ := Lib.hid hL
                clear hL
                go_wp2_with (first
                  | (go_at_call 20; have hq := HT7; clear hq; refine (total_any _ _ _ L HG.out _ HT7.out.d).mono ?_; rintro e w8 ⟨rfl, hb8⟩; have HT8 := Lib.hid (HT7.out.kept hb8); have HB78 := Lib.hid hb8; clear hb8)
                  | (go_at_call 20; have hq := HT6; clear hq; refine (total_any _ _ _ L HG.out _ HT6.out.a).mono ?_; rintro e w7 ⟨rfl, hb7⟩; have HT7 := Lib.hid (HT6.out.kept hb7); have HB67 := Lib.hid hb7; clear hb7)
                  | (go_at_call 20; have hq := HT5; clear hq; refine (total_any _ _ _ L HG.out _ HT5.out.b).mono ?_; rintro e w6 ⟨rfl, hb6⟩; have HT6 := Lib.hid (HT5.out.kept hb6); have HB56 := Lib.hid hb6; clear hb6)
                  | (go_at_call 20; have hq := HT4; clear hq; refine (total_any _ _ _ L HG.out _ HT4.out.a).mono ?_; rintro e w5 ⟨rfl, hb5⟩; have HT5 := Lib.hid (HT4.out.kept hb5); have HB45 := Lib.hid hb5; clear hb5)
                  | (go_at_call 19; have hq := HT3; clear hq; refine (all_any _ _ _ L HG.out _ HT3.out.d).mono ?_; rintro e wd ⟨v, rfl, hrow, hnil, hbd⟩; have HT4 := Lib.hid (HT3.out.kept hbd); have HB34 := Lib.hid hbd; obtain ⟨g4, cap4, rfl, hcap4, hcm4, hgB4, hgl4, hc4⟩ := row_some hrow hnil HNZ.out; have HC4 := Lib.hid hc4; clear hc4; clear hrow hnil hbd)
                  | (go_at_call 19; have hq := HT2; clear hq; refine (all_any _ _ _ L HG.out _ HT2.out.b).mono ?_; rintro e wc ⟨v, rfl, hrow, hnil, hbc⟩; have HT3 := Lib.hid (HT2.out.kept hbc); have HB23 := Lib.hid hbc; obtain ⟨g3, cap3, rfl, hcap3, hcm3, hgB3, hgl3, hc3⟩ := row_some hrow hnil HNZ.out; have HC3 := Lib.hid hc3; clear hc3; clear hrow hnil hbc)
                  | (go_at_call 19; have hq := HT1; clear hq; refine (all_any _ _ _ L HG.out _ HT1.out.a).mono ?_; rintro e wb ⟨v, rfl, hrow, hnil, hbb⟩; have HT2 := Lib.hid (HT1.out.kept hbb); have HB12 := Lib.hid hbb; obtain ⟨g2, cap2, rfl, hcap2, hcm2, hgB2, hgl2, hc2⟩ := row_some hrow hnil HNZ.out; have HC2 := Lib.hid hc2; clear hc2; clear hrow hnil hbb)
                  | (go_at_call 14; refine (HJ.out _ (hF2.kept ((Below.refl _ _).alloc (Nat.le_refl _) _)) (ptrs_one wr (w2.heap.size + 1) 25)).mono ?_; rintro e wa ⟨rfl, b5, Q5, ht⟩; have HT1 := Lib.hid ht; clear ht))
                have B48 : Below wd.heap.size wd w8 := HB45.out.trans ((HB56.out.trans ((HB67.out.trans (HB78.out.mono HB67.out.size)).mono HB56.out.size)).mono HB45.out.size)
                have B38 : Below wc.heap.size wc w8 := HB34.out.trans (B48.mono HB34.out.size)
                have B28 : Below wb.heap.size wb w8 := HB23.out.trans (B38.mono HB23.out.size)
                have HB48 := Lib.hid B48
                have HB38 := Lib.hid B38
                have HB28 := Lib.hid B28
                have hcm2' : cap2 ≤ 9223372036854775807 := by unfold maxLen at hcm2; omega
                have hcm3' : cap3 ≤ 9223372036854775807 := by unfold maxLen at hcm3; omega
                have hcm4' : cap4 ≤ 9223372036854775807 := by unfold maxLen at hcm4; omega
                clear B48 B38 B28 hcm2 hcm3 hcm4 hneq
                go_loopw [15, 16] (fun v u wr => ∃ j : Nat, j ≤ L.length ∧ u = .int .i64 j ∧ v = .complex .f64 (Fl.W (psum (L.take j)).1) (Fl.W (psum (L.take j)).2) ∧ Hid (Below w8.heap.size w8 wr)) (fun _ u _ => L.length - (intOf u).toNat)
                case atStart => exact ⟨0, Nat.zero_le _, rfl, by simp [psum, W_zero], Lib.hid (Below.refl _ _)⟩
                case round =>
                  obtain ⟨j, hj, rfl, rfl, hbj⟩ := hrel
                  by_cases hlt : j < L.length
                  · have hj1 : (j : Int) < (L.length : Int) := by omega
                    have hj0 : (0 : Int) ≤ (j : Int) := by omega
                    obtain ⟨e, he⟩ : ∃ e, L[j]? = some e := ⟨L[j], List.getElem?_eq_getElem hlt⟩
                    have hmem := List.mem_of_getElem? he
                    have hfit := HG.out.fit e hmem
                    have hup : ∀ (W : World), Below W.heap.size W w8 → ∀ g i u, g < W.heap.size → W.cell? ⟨g, i, none⟩ = u → wr.cell? ⟨g, i, none⟩ = u := fun W hW g i u hlt h => (hbj.out.cell (p := ⟨g, i, none⟩) (Nat.lt_of_lt_of_le hlt hW.size)).trans ((hW.cell (p := ⟨g, i, none⟩) hlt).trans h)
                    have p0 := hup _ HB28.out _ _ _ hgl2 (HC2.out j e he 0 (by omega))
                    have p1 := hup _ HB28.out _ _ _ hgl2 (HC2.out j e he 1 (by omega))
                    have p2 := hup _ HB28.out _ _ _ hgl2 (HC2.out j e he 2 (by omega))
                    have q0 := hup _ HB38.out _ _ _ hgl3 (HC3.out j e he 0 (by omega))
                    have q1 := hup _ HB38.out _ _ _ hgl3 (HC3.out j e he 1 (by omega))
                    have q2 := hup _ HB38.out _ _ _ hgl3 (HC3.out j e he 2 (by omega))
                    have r0 := hup _ HB48.out _ _ _ hgl4 (HC4.out j e he 0 (by omega))
                    have r1 := hup _ HB48.out _ _ _ hgl4 (HC4.out j e he 1 (by omega))
                    have r2 := hup _ HB48.out _ _ _ hgl4 (HC4.out j e he 2 (by omega))
                    simp only [cnt, List.getElem?_cons_zero, List.getElem?_cons_succ, Nat.add_zero] at p0 p1 p2 q0 q1 q2 r0 r1 r2
                    have HPS := Lib.hid (psum_take L j e he)
                    have hs1 := HSB.out (j + 1)
                    rw [HPS.out] at hs1
                    have hadd := run_cadd (Fl.W (psum (L.take j)).1) (Fl.W (psum (L.take j)).2) (Fl.W e.2.1) (Fl.W e.2.2) _ _ (add_W _ _ (by omega) (by omega) (by omega)) (add_W _ _ (by omega) (by omega) (by omega))
                    have HGET := Lib.hid (fun n => get_has _ _ _ L HG.out (wr.drewN n) ((HT8.out.a.kept hbj.out).kept (below_drewN (Below.refl _ _) n)) e hmem)
                    unfold val at HGET
                    clear hup hmem hfit he hs1
                    generalize psum (L.take j) = t at *
                    go_wp2_with fail
                    go_quiet (fail)
                    go_wp2_with (go_at_call 13; refine (HGET.out _).mono ?_; rintro e' w' ⟨rfl, rfl⟩)
                    go_roundw
                    case rel => exact ⟨j + 1, by omega, by go_num, by rw [HPS.out], Lib.hid (below_drewN hbj.out _)⟩
                    case measure => simp [intOf]; omega
                  · obtain rfl : j = L.length := by omega
                    clear hlt
                    rw [List.take_length, ← HSUM.out]
                    have heql := HEQL.out
                    go_wp2_with (first
                      | (go_at_call 8; refine (works_any _).mono ?_; rintro e wz ⟨rfl, hbz⟩; have HBZ := Lib.hid (HT9.out.bel.trans (hbz.mono HT9.out.bel.size)); clear hbz)
                      | (go_at_call 20; refine (total_any _ _ _ L HG.out _ (HT8.out.kept hbj.out).a).mono ?_; rintro e w9 ⟨rfl, hb9⟩; have HT9 := Lib.hid ((HT8.out.kept hbj.out).kept hb9); clear hb9))
                    go_ret
                    exact ⟨rfl, HBZ.out⟩
    · go_ret
      exact ⟨rfl, HB9.out⟩
  · have hn' : (50 : Int) < (l.length : Int) := by omega
    clear hn
    go_enter Tryd.func5, Tryd.ntmps5
    go_wp2_with (first
      | (go_at_call 8; refine (works_any _).mono ?_; rintro e w9 ⟨rfl, hb9⟩; have HB9 := Lib.hid hb9; clear hb9)
      | (go_at_call 7; refine HH.out.mono ?_; rintro e w' ⟨⟨b, rfl, hb⟩, rfl⟩; cases b))
    all_goals go_ret
    all_goals exact ⟨rfl, HB9.out⟩
end Go.Proofs.YtgoeiejdcpoaaaaDoor
