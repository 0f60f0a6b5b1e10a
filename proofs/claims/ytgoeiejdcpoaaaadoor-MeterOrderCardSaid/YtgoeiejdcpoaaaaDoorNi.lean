/-
  An argument that is a slice of steps, opened; walks: the law's heavy, Get of a name that is not there. Part of the proofs of the meter's statements. No condition beyond the theorems' own hypotheses.
-/
import Derived.Test.YtgoeiejdcpoaaaaDoorNh
import Derived.Deep.Slices
import Derived.ChangeSame
import Derived.Carry
import Derived.ChangeMaps5
import Derived.SizedLaws
namespace Go.Proofs.YtgoeiejdcpoaaaaDoor
open Go.RowKit Go.ChangeShapes Go.WideShapes Go.Deep Go.Maps Go.WideAt Fl

theorem spot_none {w : World} {b o : Nat} {sp : Option Nat} {v : Value} (h : w.cell? ⟨b, o, sp⟩ = some v) : sp = none := by
  cases sp with
  | none => rfl
  | some s =>
    simp only [World.cell?] at h
    split at h <;> simp_all
theorem weight_name {H : Type} {ts : List TypeId} {ds : List (DataW H)} (h : (DataW.weightsEach Tryd.prog ts ds).all (· ≤ reachBytes) = true) {j : Nat} {elems spare : List (DataW H)} (ht : ts[j]? = some 22) (hd : ds[j]? = some (.slice elems spare))
    {bytes : List UInt8} {r : List (DataW H)} (he : DataW.agg (.lit (.string bytes) :: r) ∈ elems) : bytes.length ≤ reachBytes := by
  have hall : ∀ (es : List (DataW H)), DataW.agg (.lit (.string bytes) :: r) ∈ es → bytes.length ∈ DataW.weightsAll Tryd.prog 42 es := by
    intro es
    induction es with
    | nil => intro h; simp at h
    | cons d rest ih =>
      intro h
      simp only [DataW.weightsAll, List.mem_append]
      rcases List.mem_cons.1 h with rfl | h
      · left
        simp [DataW.weights, Tryd.underlying42, DataW.weightsEach]
      · exact .inr (ih h)
  have hm : bytes.length ∈ (DataW.slice elems spare : DataW H).weights Tryd.prog 22 := by
    simp only [DataW.weights, Tryd.underlying22, List.mem_cons, List.mem_append]
    exact .inr (.inl (hall elems he))
  have := List.all_eq_true.1 h _ (DataW.weights_mem_each ht hd _ hm)
  simpa using this
set_option maxRecDepth 20000 in
/-- A slice of steps that comes in: what it reads as. -/
theorem open_steps {H : Type} {enc : TypeId × Value → H} {w : World} {base : Nat} {sp : Nat → Bool} {held : Bool} {v : Value} {d : DataW H} {ps : List MemPlace} {r : Reach} {b0 : Nat} {ts : List TypeId} {ds : List (DataW H)} {j : Nat}
    (hv : Value.okWide Tryd.prog w r b0 22 v) (h : DataW.Trod enc Tryd.prog w base sp held 22 v d ps) (hsz : (DataW.weightsEach Tryd.prog ts ds).all (· ≤ reachBytes) = true) (ht : ts[j]? = some 22) (hd : ds[j]? = some d) :
    ∃ A cap l, v = .slice A (l : List Stp).length cap ∧ l.length ≤ maxLen ∧ StepsAt w A l ∧ ∀ x ∈ l, x.1.size ≤ reachBytes := by
  obtain ⟨a0, n0, c0, rfl⟩ := okWide_slice Tryd.underlying22 hv
  obtain ⟨fuel, hf⟩ := h
  rcases open_slice Tryd.underlying22 hf with ⟨hc, hx⟩ | ⟨a, len, cap, m, n, D, Pl, hcs, hb, hl, hm, hmm, hx, hi⟩
  · simp [Value.cells] at hc
    obtain ⟨rfl, rfl, rfl⟩ := hc
    exact ⟨none, 0, [], rfl, Nat.zero_le _, ⟨fun k x hx => by simp at hx, by simp⟩, by simp⟩
  · simp [Value.cells] at hcs
    obtain ⟨rfl, rfl, rfl⟩ := hcs
    have hlm : n0 ≤ m := by rw [hmm]; split <;> omega
    have h42 : Tryd.prog.cellsOf 42 = 3 := by kernel_rfl
    have h9 : Tryd.prog.cellsOf 9 = 1 := by kernel_rfl
    have h2 : Tryd.prog.cellsOf 2 = 1 := by kernel_rfl
    rw [h42] at hi
    obtain ⟨hde, hpe⟩ := Prod.mk.inj hx
    have hstep : ∀ i, i < n0 → ∃ x : Stp, w.cell? (a.add (i * 3)) = some (.string x.1) ∧ w.cell? (a.add (i * 3 + 1)) = some (.int .i64 x.2.1) ∧ w.cell? (a.add (i * 3 + 2)) = some (.int .i64 x.2.2) ∧ x.1.size ≤ maxLen ∧ ∃ r, D i = .agg (.lit (.string x.1.data.toList) :: r) := by
      intro i hin
      obtain ⟨cs', hc, htr⟩ := hi i (by omega)
      obtain ⟨xs, n', -, hxa, hcl, hxl, hfs⟩ := DataW.trod_struct Tryd.underlying42 htr
      obtain ⟨-, hlen, hat⟩ := World.cells?_some hc
      have f0 := hfs 0 _ rfl
      have f1 := hfs 1 _ rfl
      have f2 := hfs 2 _ rfl
      have h9' : ∀ f : Field, f.type = 9 → Tryd.prog.cellsOf f.type = 1 := fun f e => by rw [e, h9]
      have h2' : ∀ f : Field, f.type = 2 → Tryd.prog.cellsOf f.type = 1 := fun f e => by rw [e, h2]
      rw [h9' _ rfl] at f0
      rw [h2' _ rfl] at f1
      rw [h2' _ rfl] at f2
      match cs', hlen with
      | [u0, u1, u2], _ =>
        match xs, hxl with
        | [y0, y1, y2], _ =>
          obtain ⟨s, e1, e2, hs⟩ := DataW.trod_string (cs := [u0]) (x := y0) Tryd.underlying9 f0
          obtain ⟨p, e3, -, -⟩ := DataW.trod_int (cs := [u1]) (x := y1) Tryd.underlying2 f1
          obtain ⟨q, e4, -, -⟩ := DataW.trod_int (cs := [u2]) (x := y2) Tryd.underlying2 f2
          obtain rfl : u0 = .string s := by simpa using e1
          obtain rfl : u1 = .int .i64 p := by simpa using e3
          obtain rfl : u2 = .int .i64 q := by simpa using e4
          have c0 := hat 0 (by omega)
          have c1 := hat 1 (by omega)
          have c2 := hat 2 (by omega)
          rw [Deep.add_add] at c0 c1 c2
          refine ⟨(s, p, q), c0, c1, c2, hs, ?_⟩
          have := (Prod.mk.inj hxa).1
          rw [this, e2]
          exact ⟨_, rfl⟩
    obtain ⟨X, hX⟩ := choose_lt (α := Stp) hstep
    refine ⟨some a, c0, (List.range n0).map X, by simp, by simp; omega, ⟨fun k x hx => ?_, fun x hx => ?_⟩, fun x hx => ?_⟩
    · obtain ⟨hk, rfl⟩ : k < n0 ∧ X k = x := by
        have hk : k < n0 := by have := (List.getElem?_eq_some_iff.1 hx).1; simpa using this
        exact ⟨hk, by simpa [hk] using hx⟩
      obtain ⟨c0, c1, c2, -, -⟩ := hX k hk
      obtain ⟨b, o, sp'⟩ := a
      have c00 : w.cell? ⟨b, o, sp'⟩ = some (.string (X 0).1) := (hX 0 (by omega)).1
      obtain rfl := spot_none c00
      rw [Addr.add_lit] at c0 c1 c2
      exact ⟨b, o, rfl, World.block_lt_of_cell? _ _ c0, c0, by rw [Nat.add_assoc]; exact c1, by rw [Nat.add_assoc]; exact c2⟩
    · obtain ⟨k, hk, rfl⟩ := List.mem_map.1 hx
      exact (hX k (List.mem_range.1 hk)).2.2.2.1
    · obtain ⟨k, hk, rfl⟩ := List.mem_map.1 hx
      obtain ⟨-, -, -, -, r, hr⟩ := hX k (List.mem_range.1 hk)
      have := weight_name hsz ht (by rw [hd, hde]) (bytes := (X k).1.data.toList) (r := r) (by rw [← hr]; exact List.mem_map.2 ⟨k, hk, rfl⟩)
      simpa using this
/-- What heavy answers: if no, there are few steps. -/
def HeavyEnds (l : List Stp) (e : Ending) : Prop := ∃ b : Bool, e = .returned (.bool b) ∧ (b = false → l.length ≤ 200)
theorem heavy_mk {l : List Stp} {v : Value} (b : Bool) (hv : v = .bool b) (h : b = false → l.length ≤ 200) : HeavyEnds l (.returned v) := ⟨b, by rw [hv], h⟩
set_option maxRecDepth 20000 in
set_option maxHeartbeats 800000 in
theorem heavy_any (A : Option Addr) (cap : Nat) (l : List Stp) (hl : l.length ≤ maxLen) (hz : ∀ x ∈ l, x.1.size ≤ reachBytes) (w : World) (hS : StepsAt w A l) :
    Calls Tryd.prog 7 #[.slice A l.length cap] w fun e w' => HeavyEnds l e ∧ w = w' := by
  have HS := Lib.hid hS
  have HZ := Lib.hid hz
  unfold maxLen at hl
  clear hS hz
  go_enter Tryd.func7, Tryd.ntmps7
  go_wp2
  go_loop [3, 4] (fun n i => ∃ k m : Nat, k ≤ l.length ∧ k ≤ 500 ∧ i = .int .i64 k ∧ n = .int .i64 m ∧ m ≤ k * 140737488351232) (fun _ i => l.length - (intOf i).toNat)
  case atStart => exact ⟨0, 0, Nat.zero_le _, by omega, rfl, rfl, by omega⟩
  case round =>
    obtain ⟨k, m, hk, hk5, rfl, rfl, hm⟩ := hrel
    have hk0 : (0 : Int) ≤ (k : Int) := by omega
    have hm0 : (0 : Int) ≤ (m : Int) := by omega
    by_cases hlt : k < l.length
    · have hk1 : (k : Int) < (l.length : Int) := by omega
      by_cases h5 : k < 500
      · have h51 : (k : Int) < 500 := by omega
        obtain ⟨x, hx⟩ : ∃ e, l[k]? = some e := ⟨l[k], List.getElem?_eq_getElem hlt⟩
        obtain ⟨bS, off, rfl, hbS, z0, z1, z2⟩ := HS.out.at_ k x hx
        have hxz := HZ.out x (List.mem_of_getElem? hx)
        unfold reachBytes at hxz
        have hmm : (m : Int) ≤ 70368744175616000 := by omega
        have hxx : (x.1.size : Int) ≤ 140737488351232 := by omega
        clear hx z1 z2
        go_wp2
        go_round
        case rel => exact ⟨k + 1, m + x.1.size, by omega, by omega, by go_num, by go_num, by omega⟩
        case measure => simp [intOf]; omega
      · have h51 : decide ((k : Int) < 500) = false := by simp; omega
        have h200 : (200 : Int) < (l.length : Int) := by omega
        go_wp2
        go_ret
        exact ⟨heavy_mk true rfl (fun h => by cases h), rfl⟩
    · obtain rfl : k = l.length := by omega
      by_cases h2 : l.length ≤ 200
      · have h200 : decide ((200 : Int) < (l.length : Int)) = false := by simp; omega
        clear hlt
        go_wp2
        go_ret
        exact ⟨heavy_mk _ rfl (fun _ => h2), rfl⟩
      · have h200 : (200 : Int) < (l.length : Int) := by omega
        clear hlt
        go_wp2
        go_ret
        exact ⟨heavy_mk true rfl (fun h => by cases h), rfl⟩
theorem get_no (Q p b : Nat) (l : List Ent) (w : World) (hM : MeterAt w Q p b l) (s : ByteArray) (hs : s.size ≤ maxLen) (hno : hasE l s.data.toList = false) : Calls Tryd.prog 13 #[.pointer (some ⟨p, 0, none⟩), .string s] w fun e' w' => e' = .returned (.complex .f64 0 0) ∧ w = w' := by
  have hp := hM.cell
  have hl : (Instr.lookup 62 (.map (some b)) (.string s) false).run Tryd.prog w = .ok (.complex .f64 0 0) w := by
    obtain ⟨v, ps, h1, h2⟩ := hM.own.lookup law9 Tryd.underlying62 (zero32 w) (zd := .held (.complex .f64 0 0)) (zp := []) rfl (key9 s hs)
    rw [Maps.atKey_of_not_has (by rw [dat_has]; exact hno)] at h2
    simp [RH] at h2
    rw [h1, h2.1]
  go_enter Tryd.func13, Tryd.ntmps13
  go_wp2
  go_ret
  exact ⟨rfl, rfl⟩
end Go.Proofs.YtgoeiejdcpoaaaaDoor
