/-
  Layer 55 (script): the document's example (the law package's awake).
-/
import Derived.Test.YtjcffbhgjmaicaaDoorScrSame
import Derived.Test.YtjcffbhgjmaicaaDoorScrAwakeP
namespace Go.Proofs.YtjcffbhgjmaicaaDoor
open Go.RowKit
open Script

/-- How the steps that were read lie. -/
theorem OwnS.steps {w : World} {base : Nat} {v : Value} {l : List Script.Step} (h : OwnS w base v l) : ∃ a c, v = .slice a l.length c ∧ l.length ≤ c ∧ c ≤ maxLen ∧ StepsAt w a l := by
  obtain ⟨css, h1, h2, h3⟩ := h
  have hr : OwnR w w base v l ∨ True := .inr trivial
  obtain ⟨a, c, rfl, g1, g2⟩ := ownsRow_form h2
  refine ⟨a, c, rfl, g1, g2, fun i s hi => ?_⟩
  have hil : i < css.length := by rw [h1]; exact (List.getElem?_eq_some_iff.1 hi).1
  have hc : css[i]? = some css[i] := List.getElem?_eq_getElem hil
  have hv : ∀ (k : Nat) (x : Script.Step) (d : Array Value), l[k]? = some x → css[k]? = some d → StepV w x d := fun k x d h h' => (h3 k x d h h' w fun _ _ _ _ => rfl).1
  have hall : ∀ d ∈ css, d.size = 10 := by
    intro d hd
    obtain ⟨k, hk⟩ := List.getElem?_of_mem hd
    have hkl : k < l.length := by rw [← h1]; exact (List.getElem?_eq_some_iff.1 hk).1
    exact (stepV_cells (hv k _ d (List.getElem?_eq_getElem hkl) hk)).1
  have hr : Row w a (css.flatMap Array.toList) := Row.own h2
  have hpos : 0 < (css.flatMap Array.toList).length := by
    have hs := flat_cells css i 0 css[i] (css[i][0]'(by rw [hall _ (List.getElem_mem hil)]; omega)) hall hc (Array.getElem?_eq_getElem _)
    have := (List.getElem?_eq_some_iff.1 hs).1
    omega
  obtain ⟨b, off, rfl, hcell⟩ := hr hpos
  exact ⟨b, off, _, rfl, hv i s _ hi hc, fun j u hj => hcell _ _ (flat_cells css i j _ u hall hc hj)⟩

set_option maxRecDepth 100000 in
set_option maxHeartbeats 4000000 in
theorem awake_any (w : World) (hrd : Ready w) : Calls Tryd.prog 11 #[] w fun e w' => e = .returned (.bool true) ∧ Below w.heap.size w w' := by
  have H1 := Lib.hid (parse_any ⟨#[103, 101, 116, 32, 49, 10]⟩ w (by decide) hrd)
  have H2 := Lib.hid (fun (V : World) (hV : Below w.heap.size w V) => parse_any ⟨#[103, 101, 116, 32, 48, 49, 10]⟩ V (by decide) (hrd.below hV))
  have H3 := Lib.hid (fun (V : World) (hV : Below w.heap.size w V) => parse_any ⟨#[103, 101, 116, 32, 49]⟩ V (by decide) (hrd.below hV))
  rw [show (ByteArray.mk #[103, 101, 116, 32, 49, 10]).data.toList = [103, 101, 116, 32, 49, 10] from rfl, parse_a1] at H1
  rw [show (ByteArray.mk #[103, 101, 116, 32, 48, 49, 10]).data.toList = [103, 101, 116, 32, 48, 49, 10] from rfl, parse_a2] at H2
  rw [show (ByteArray.mk #[103, 101, 116, 32, 49]).data.toList = [103, 101, 116, 32, 49] from rfl, parse_a3] at H3
  unfold ParseRes at H1 H2 H3
  clear hrd
  go_enter Tryd.func11, Tryd.ntmps11
  go_wp2_with fail
  refine H1.out.mono ?_
  rintro e w1 ⟨⟨v1, rfl, ho1⟩, hb1⟩
  obtain ⟨a1, c1, rfl, g1, g2, hs1⟩ := ho1.steps
  have HS1 := Lib.hid hs1
  have HB1 := Lib.hid hb1
  clear ho1 hs1 hb1 H1
  simp only [List.length_cons, List.length_nil] at g1 ⊢
  go_wp2_with fail
  refine (H2.out _ HB1.out).mono ?_
  rintro e w2 ⟨rfl, hb2⟩
  have HB2 := Lib.hid hb2
  have HW2 := Lib.hid (HB1.out.trans (hb2.mono HB1.out.size))
  clear hb2 H2
  go_wp2_with fail
  refine (H3.out _ HW2.out).mono ?_
  rintro e w3 ⟨rfl, hb3⟩
  have HW3 := Lib.hid (HW2.out.trans (hb3.mono HW2.out.size))
  have HB3 := Lib.hid (HB2.out.trans (hb3.mono HB2.out.size))
  clear hb3 H3
  obtain ⟨g, o, cs, rfl, hv, hc⟩ := HS1.out 0 get1 rfl
  obtain ⟨nm, n0, n1, n2, n3, ta, pa, ka, tc, pc, kc, -, e2, rfl, -⟩ := hv
  have e20 : n0 = 1 := by simp [get1] at e2; exact e2.1.symm
  subst e20
  unfold stepCells at hc
  have k0 := (HB3.out.cell (p := ⟨g, o + (0 * 10 + 0), none⟩) (lt_of_cell (hc 0 _ rfl))).trans (hc 0 _ rfl)
  have k2 := (HB3.out.cell (p := ⟨g, o + (0 * 10 + 2), none⟩) (lt_of_cell (hc 2 _ rfl))).trans (hc 2 _ rfl)
  simp only [Nat.zero_mul, Nat.zero_add, Nat.add_zero] at k0 k2
  rw [show get1.kind = 2 from rfl] at k0
  clear hc e2
  go_wp2_with fail
  go_ret
  exact ⟨rfl, HW3.out⟩

end Go.Proofs.YtjcffbhgjmaicaaDoor
