/-
  Layer 55 (script): steps as they lie in memory; which are right.
-/
import Derived.Test.YtjcffbhgjmaicaaDoorScrRight
namespace Go.Proofs.YtjcffbhgjmaicaaDoor
open Go.RowKit
open Script

/-- These cells are a step's. -/
def StepV (w : World) (s : Script.Step) (cs : Array Value) : Prop :=
  ∃ nm n0 n1 n2 n3 ta pa ka tc pc kc, s.name = nm.data.toList ∧ s.n = [n0, n1, n2, n3] ∧ cs = stepCells s.kind nm n0 n1 n2 n3 s.body ta pa ka tc pc kc ∧ BodyAt w s.body ta pa ka ∧
    s.body.pn ≤ 100000 ∧ s.body.tn ≤ 100000 ∧ s.body.k.length ≤ 1000000 ∧ nm.size ≤ 4000000000

theorem StepV.below {w w' : World} {s : Script.Step} {cs : Array Value} (h : StepV w s cs) (hb : Below w.heap.size w w') : StepV w' s cs := by
  obtain ⟨nm, n0, n1, n2, n3, ta, pa, ka, tc, pc, kc, h1, h2, h3, h4, h5⟩ := h
  exact ⟨nm, n0, n1, n2, n3, ta, pa, ka, tc, pc, kc, h1, h2, h3, h4.below hb, h5⟩

theorem StepV.wf {w : World} {s : Script.Step} {cs : Array Value} (h : StepV w s cs) : Script.Wf s := by
  obtain ⟨nm, n0, n1, n2, n3, ta, pa, ka, tc, pc, kc, h1, h2, h3, h4, h5⟩ := h
  exact ⟨by rw [h2]; rfl, h4.pl, h4.tl⟩

/-- Steps in a row. -/
def StepsAt (w : World) (a : Option Addr) (l : List Script.Step) : Prop :=
  ∀ i s, l[i]? = some s → ∃ g o cs, a = some ⟨g, o, none⟩ ∧ StepV w s cs ∧ ∀ j u, cs[j]? = some u → w.cell? ⟨g, o + (i * 10 + j), none⟩ = some u

theorem StepsAt.below {w w' : World} {a : Option Addr} {l : List Script.Step} (h : StepsAt w a l) (hb : Below w.heap.size w w') : StepsAt w' a l := by
  intro i s hi
  obtain ⟨g, o, cs, h1, h2, h3⟩ := h i s hi
  exact ⟨g, o, cs, h1, h2.below hb, fun j u hj => (hb.cell (p := ⟨g, o + (i * 10 + j), none⟩) (lt_of_cell (h3 j u hj))).trans (h3 j u hj)⟩

theorem stepsAt_nil (w : World) (a : Option Addr) : StepsAt w a [] := fun i s h => by simp at h

theorem right_step {w : World} {s : Script.Step} {cs : Array Value} (h : StepV w s cs) :
    Calls Tryd.prog 31 #[.agg cs] w fun e w' => e = .returned (.bool (Script.right s)) ∧ Below w.heap.size w w' := by
  obtain ⟨nm, n0, n1, n2, n3, ta, pa, ka, tc, pc, kc, h1, h2, rfl, h4, h5, h6, h7, h8⟩ := h
  have e : s = stepOf s.kind nm n0 n1 n2 n3 s.body := by
    obtain ⟨k, n, l, b⟩ := s
    simp only at h1 h2
    rw [h1, h2]
    rfl
  have := right_any s.kind nm n0 n1 n2 n3 s.body ta pa ka tc pc kc w h4 h5 h6 h7 (by omega)
  rw [← e] at this
  exact this

theorem rightNot_step {w : World} {s : Script.Step} {cs : Array Value} (h : StepV w s cs) :
    Calls Tryd.prog 30 #[.agg cs] w fun e w' => e = .returned (.bool (!Script.right s)) ∧ Below w.heap.size w w' := by
  have HR := Lib.hid (fun (V : World) (hV : Below w.heap.size w V) => right_step (h.below hV))
  obtain ⟨nm, n0, n1, n2, n3, ta, pa, ka, tc, pc, kc, -, -, rfl, -⟩ := h
  generalize Script.right s = R at *
  unfold stepCells at *
  go_enter Tryd.func30, Tryd.ntmps30
  go_wp2_with fail
  refine (HR.out _ ((Below.refl _ w).alloc (Nat.le_refl _) _)).mono ?_
  rintro e w' ⟨rfl, hb⟩
  go_wp2_with fail
  go_ret
  exact ⟨rfl, ((Below.refl _ w).alloc (Nat.le_refl _) _).trans (hb.mono (by simp))⟩

theorem allR_snoc {l : List Script.Step} {k : Nat} {u : Script.Step} (h : l[k]? = some u) : (l.take (k + 1)).all Script.right = ((l.take k).all Script.right && Script.right u) := by
  rw [take_snoc h, List.all_append]; simp

set_option maxHeartbeats 2000000 in
theorem rightIdx_any (a : Option Addr) (n c : Nat) (l : List Script.Step) (w : World) (hn : l.length = n) (hn2 : n ≤ 1000000000) (h : StepsAt w a l) :
    Calls Tryd.prog 47 #[.slice a n c, .func (Fn.func 30) #[] #[]] w fun e w' => ∃ z : Int, e = .returned (.int .i64 z) ∧ decide (0 ≤ z) = !l.all Script.right ∧ Below w.heap.size w w' := by
  have HX := Lib.hid h
  have HN := Lib.hid hn
  clear h hn
  go_enter Tryd.func47, Tryd.ntmps47
  go_wp2_with fail
  go_loopw [8, 5] (fun i _ wr => ∃ k : Nat, k ≤ n ∧ i = .int .i64 k ∧ (l.take k).all Script.right = true ∧ Below w.heap.size w wr) (fun i _ _ => n - (intOf i).toNat)
  case atStart => exact ⟨0, by omega, rfl, by simp, Below.refl _ _⟩
  case round =>
    obtain ⟨k, hk, rfl, hs, hb⟩ := hrel
    by_cases hkn : k < n
    · obtain ⟨u, hu⟩ : ∃ u, l[k]? = some u := ⟨l[k]'(by rw [HN.out]; exact hkn), List.getElem?_eq_getElem _⟩
      obtain ⟨g, o, cs, rfl, hv, hc⟩ := HX.out.below hb k u hu
      have HV := Lib.hid (rightNot_step hv)
      have HA := Lib.hid (allR_snoc hu)
      have HU := Lib.hid hu
      have HS := Lib.hid hs
      have HB := Lib.hid hb
      obtain ⟨nm, n0, n1, n2, n3, ta, pa, ka, tc, pc, kc, -, -, rfl, -⟩ := hv
      unfold stepCells at HV hc
      have g0 := hc 0 _ rfl
      have g1 := hc 1 _ rfl
      have g2 := hc 2 _ rfl
      have g3 := hc 3 _ rfl
      have g4 := hc 4 _ rfl
      have g5 := hc 5 _ rfl
      have g6 := hc 6 _ rfl
      have g7 := hc 7 _ rfl
      have g8 := hc 8 _ rfl
      have g9 := hc 9 _ rfl
      rw [Nat.add_zero] at g0
      simp only [← Nat.add_assoc] at g1 g2 g3 g4 g5 g6 g7 g8 g9
      clear hc hu hs hb
      cases hsm : Script.right u with
      | true =>
        rw [hsm] at HV
        have HSM := Lib.hid hsm
        clear hsm
        go_wp2_with (go_at_call 30; refine HV.out.mono ?_; rintro e w' ⟨rfl, hb'⟩)
        go_roundw
        case rel => exact ⟨k + 1, by omega, by go_num, by rw [HA.out, HS.out, HSM.out]; rfl, HB.out.trans (hb'.mono HB.out.size)⟩
        case measure => simp [intOf]; omega
      | false =>
        rw [hsm] at HV
        have HF : Hid (l.all Script.right = false) := by
          show _ = _
          rw [List.all_eq_false]
          exact ⟨u, List.mem_of_getElem? HU.out, by rw [hsm]; decide⟩
        clear hsm
        go_wp2_with (go_at_call 30; refine HV.out.mono ?_; rintro e w' ⟨rfl, hb'⟩)
        go_ret
        exact ⟨(k : Int), rfl, by rw [HF.out]; simp, HB.out.trans (hb'.mono HB.out.size)⟩
    · obtain rfl : k = n := by omega
      have HF : Hid (l.all Script.right = true) := by
        show _ = _
        rw [List.take_of_length_le (by rw [HN.out]; exact Nat.le_refl _)] at hs
        exact hs
      have HB := Lib.hid hb
      clear hs hb
      go_wp2_with fail
      go_ret
      exact ⟨-1, rfl, by rw [HF.out]; rfl, HB.out⟩

/-- Are steps right? -/
def rightAll (l : List Script.Step) : Bool := decide (l.length ≤ 200) && l.all Script.right

set_option maxHeartbeats 1000000 in
theorem rightAll_any (a : Option Addr) (n c : Nat) (l : List Script.Step) (w : World) (hn : l.length = n) (hn2 : n ≤ 1000000000) (h : StepsAt w a l) :
    Calls Tryd.prog 19 #[.slice a n c] w fun e w' => e = .returned (.bool (rightAll l)) ∧ Below w.heap.size w w' := by
  have HI := Lib.hid (rightIdx_any a n c l w hn hn2 h)
  unfold rightAll
  rw [hn]
  clear h hn
  generalize l.all Script.right = t at *
  by_cases h2 : n ≤ 200
  · rw [decide_eq_true h2, Bool.true_and]
    go_enter Tryd.func19, Tryd.ntmps19
    go_wp2_with (go_at_call 29; go_in)
    refine HI.out.mono ?_
    rintro e w' ⟨z, rfl, hz, hb⟩
    cases t with
    | true =>
      have hz' : decide (0 ≤ z) = false := hz
      go_wp2_with fail
      go_ret
      exact ⟨rfl, hb⟩
    | false =>
      have hz' : decide (0 ≤ z) = true := hz
      go_wp2_with fail
      go_ret
      exact ⟨rfl, hb⟩
  · rw [decide_eq_false h2, Bool.false_and]
    go_enter Tryd.func19, Tryd.ntmps19
    go_wp2_with fail
    go_ret
    exact ⟨rfl, Below.refl _ _⟩

end Go.Proofs.YtjcffbhgjmaicaaDoor
