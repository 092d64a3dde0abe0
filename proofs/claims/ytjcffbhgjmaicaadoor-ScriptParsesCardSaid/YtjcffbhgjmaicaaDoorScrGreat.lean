/-
  Layer 55 (script): is there more than is looked at (the law package's great).
-/
import Derived.Test.YtjcffbhgjmaicaaDoorScrPlain
namespace Go.Proofs.YtjcffbhgjmaicaaDoor
open Go.RowKit
open Script

/-- These cells are a step's, whatever its size. -/
def StepV0 (w : World) (s : Script.Step) (cs : Array Value) : Prop :=
  ∃ nm n0 n1 n2 n3 ta pa ka tc pc kc, s.name = nm.data.toList ∧ s.n = [n0, n1, n2, n3] ∧ cs = stepCells s.kind nm n0 n1 n2 n3 s.body ta pa ka tc pc kc ∧ BodyAt w s.body ta pa ka ∧
    s.body.pn ≤ maxLen ∧ s.body.tn ≤ maxLen ∧ s.body.k.length ≤ maxLen ∧ nm.size ≤ maxLen

def StepsAt0 (w : World) (a : Option Addr) (l : List Script.Step) : Prop :=
  ∀ i s, l[i]? = some s → ∃ g o cs, a = some ⟨g, o, none⟩ ∧ StepV0 w s cs ∧ ∀ j u, cs[j]? = some u → w.cell? ⟨g, o + (i * 10 + j), none⟩ = some u

theorem StepV0.below {w w' : World} {s : Script.Step} {cs : Array Value} (h : StepV0 w s cs) (hb : Below w.heap.size w w') : StepV0 w' s cs := by
  obtain ⟨nm, n0, n1, n2, n3, ta, pa, ka, tc, pc, kc, h1, h2, h3, h4, h5⟩ := h
  exact ⟨nm, n0, n1, n2, n3, ta, pa, ka, tc, pc, kc, h1, h2, h3, h4.below hb, h5⟩
theorem StepsAt0.below {w w' : World} {a : Option Addr} {l : List Script.Step} (h : StepsAt0 w a l) (hb : Below w.heap.size w w') : StepsAt0 w' a l := by
  intro i s hi
  obtain ⟨g, o, cs, h1, h2, h3⟩ := h i s hi
  exact ⟨g, o, cs, h1, h2.below hb, fun j u hj => (hb.cell (p := ⟨g, o + (i * 10 + j), none⟩) (lt_of_cell (h3 j u hj))).trans (h3 j u hj)⟩

/-- Is a step more than is looked at? -/
def stepGreat (s : Script.Step) : Bool := decide (60 < s.name.length) || decide (30 < s.body.pn) || decide (30 < s.body.tn) || decide (100 < s.body.k.length)
def greatS (l : List Script.Step) : Bool := decide (210 < l.length) || l.any stepGreat

theorem stepsAt_of {w : World} {a : Option Addr} {l : List Script.Step} (h : StepsAt0 w a l) (hg : greatS l = false) : StepsAt w a l := by
  intro i s hi
  obtain ⟨g, o, cs, h1, ⟨nm, n0, n1, n2, n3, ta, pa, ka, tc, pc, kc, e1, e2, e3, e4, -⟩, h3⟩ := h i s hi
  refine ⟨g, o, cs, h1, ⟨nm, n0, n1, n2, n3, ta, pa, ka, tc, pc, kc, e1, e2, e3, e4, ?_⟩, h3⟩
  unfold greatS at hg
  rw [Bool.or_eq_false_iff] at hg
  have hs : stepGreat s = false := by
    have := List.any_eq_false.1 hg.2 s (List.mem_of_getElem? hi)
    simpa using this
  unfold stepGreat at hs
  simp only [Bool.or_eq_false_iff, decide_eq_false_iff_not] at hs
  have hn : nm.size = s.name.length := by rw [e1, Array.length_toList]; rfl
  omega

set_option maxRecDepth 100000 in
set_option maxHeartbeats 4000000 in
theorem great_any (a : Option Addr) (n c : Nat) (l : List Script.Step) (w : World) (hn : l.length = n) (hn2 : n ≤ maxLen) (h : StepsAt0 w a l) :
    Calls Tryd.prog 16 #[.slice a n c] w fun e w' => e = .returned (.int .i64 (if greatS l then 1 else 0)) ∧ w' = w := by
  have HX := Lib.hid h
  have HN := Lib.hid hn
  unfold maxLen at hn2
  clear h hn
  obtain ⟨r, hr⟩ : ∃ r : Int, r = (if greatS l then 1 else 0) := ⟨_, rfl⟩
  have HR := Lib.hid hr
  rw [← hr]
  clear hr
  by_cases h210 : n ≤ 210
  · go_enter Tryd.func16, Tryd.ntmps16
    go_wp2_with fail
    go_loop [3] (fun i => ∃ j : Nat, j ≤ n ∧ i = .int .i64 j ∧ (l.take j).any stepGreat = false) (fun i => n - (intOf i).toNat)
    case atStart => exact ⟨0, by omega, rfl, rfl⟩
    case round =>
      obtain ⟨j, hj, rfl, hz⟩ := hrel
      have HZ := Lib.hid hz
      clear hz
      by_cases hjn : j < n
      · obtain ⟨u, hu⟩ : ∃ u, l[j]? = some u := ⟨l[j]'(by rw [HN.out]; exact hjn), List.getElem?_eq_getElem _⟩
        obtain ⟨g, o, cs, rfl, hv, hc⟩ := HX.out j u hu
        have HU := Lib.hid hu
        obtain ⟨nm, n0, n1, n2, n3, ta, pa, ka, tc, pc, kc, e1, -, rfl, -, b1, b2, b3, b4⟩ := hv
        unfold stepCells at hc
        have hnm : Hid (nm.size = u.name.length) := by show _ = _; rw [e1, Array.length_toList]; rfl
        have HG : Hid (stepGreat u = (decide (60 < nm.size) || decide (30 < u.body.pn) || decide (30 < u.body.tn) || decide (100 < u.body.k.length))) := by show _ = _; unfold stepGreat; rw [hnm.out]
        have g1 := hc 1 _ rfl
        have g7 := hc 7 _ rfl
        have g8 := hc 8 _ rfl
        have g9 := hc 9 _ rfl
        simp only [← Nat.add_assoc] at g1 g7 g8 g9
        unfold maxLen at b1 b2 b3 b4
        generalize u.body.k.length = kl at *
        generalize u.body.pn = pn at *
        generalize u.body.tn = tn at *
        have HST : Hid (∀ b : Bool, stepGreat u = b → (l.take (j + 1)).any stepGreat = b) := fun b hb => by rw [take_snoc HU.out, List.any_append, HZ.out]; simp [hb]
        have HYES : Hid (stepGreat u = true → r = 1) := fun hb => by
          rw [HR.out, if_pos]
          unfold greatS
          rw [Bool.or_eq_true]
          exact .inr (List.any_eq_true.2 ⟨u, List.mem_of_getElem? HU.out, hb⟩)
        clear hc hu e1
        by_cases c1 : 60 < nm.size
        · have HRR := Lib.hid (HYES.out (by rw [HG.out, decide_eq_true c1]; simp))
          go_wp2_with fail
          go_ret
          exact ⟨by rw [HRR.out]; rfl, rfl⟩
        · by_cases c2 : 30 < pn
          · have HRR := Lib.hid (HYES.out (by rw [HG.out, decide_eq_true c2]; simp))
            go_wp2_with fail
            go_ret
            exact ⟨by rw [HRR.out]; rfl, rfl⟩
          · by_cases c3 : 30 < tn
            · have HRR := Lib.hid (HYES.out (by rw [HG.out, decide_eq_true c3]; simp))
              go_wp2_with fail
              go_ret
              exact ⟨by rw [HRR.out]; rfl, rfl⟩
            · by_cases c4 : 100 < kl
              · have HRR := Lib.hid (HYES.out (by rw [HG.out, decide_eq_true c4]; simp))
                go_wp2_with fail
                go_ret
                exact ⟨by rw [HRR.out]; rfl, rfl⟩
              · have HNO := Lib.hid (HST.out false (by rw [HG.out, decide_eq_false c1, decide_eq_false c2, decide_eq_false c3, decide_eq_false c4]; rfl))
                go_wp2_with fail
                go_round
                case rel => exact ⟨j + 1, by omega, by go_num, HNO.out⟩
                case measure => simp [intOf]; omega
      · obtain rfl : n = j := by omega
        have HRR : Hid (r = 0) := by
          show _ = _
          have hz := HZ.out
          rw [List.take_of_length_le (by rw [HN.out]; exact Nat.le_refl _)] at hz
          rw [HR.out, if_neg]
          unfold greatS
          rw [hz, HN.out, decide_eq_false (by omega)]
          simp
        go_wp2_with fail
        go_ret
        exact ⟨by rw [HRR.out]; rfl, rfl⟩
  · have HRR : Hid (r = 1) := by
      show _ = _
      rw [HR.out, if_pos]
      unfold greatS
      rw [HN.out, decide_eq_true (by omega)]; rfl
    go_enter Tryd.func16, Tryd.ntmps16
    go_wp2_with fail
    go_ret
    exact ⟨by rw [HRR.out]; rfl, rfl⟩

end Go.Proofs.YtjcffbhgjmaicaaDoor
