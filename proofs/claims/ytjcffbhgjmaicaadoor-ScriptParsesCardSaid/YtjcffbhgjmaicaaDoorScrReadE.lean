/-
  Layer 55 (script): reading a line: the last statement ('return out, right(out) && line(out) == s'), over any frame. Printed by wip/gen_readend.py.
-/
import Derived.Test.YtjcffbhgjmaicaaDoorScrReadD
import Derived.Deep.RegionLaw
import Derived.Deep.RegionHeldLaw
namespace Go.Proofs.YtjcffbhgjmaicaaDoor
open Go.RowKit
open Script

def findRegion (n : Nat) : Code → Option Code
  | .region m ops d => if m = n then some (.region m ops d) else none
  | .seq a b => match findRegion n a with
    | some c => some c
    | none => findRegion n b
  | .block _ c => findRegion n c
  | .scope c => findRegion n c
  | .loop c => findRegion n c
  | .cond _ a b => match findRegion n a with
    | some c => some c
    | none => findRegion n b
  | _ => none
noncomputable def read33 : Code := ((Tryd.f21.body.bind (findRegion 33)).getD .skip)

/-- The result's cells, written: the block. -/
theorem exit_heap {V : World} {A : Nat} {T : TypeId} {y0 y1 y2 y3 y4 y5 y6 y7 y8 y9 x0 x1 x2 x3 x4 x5 x6 x7 x8 x9 : Value} (h : V.heap[A]? = some (.cells #[y0, y1, y2, y3, y4, y5, y6, y7, y8, y9] T (0, 0))) : ((((((((((V.setCell ⟨A, 0, none⟩ x0).setCell ⟨A, 1, none⟩ x1).setCell ⟨A, 2, none⟩ x2).setCell ⟨A, 3, none⟩ x3).setCell ⟨A, 4, none⟩ x4).setCell ⟨A, 5, none⟩ x5).setCell ⟨A, 6, none⟩ x6).setCell ⟨A, 7, none⟩ x7).setCell ⟨A, 8, none⟩ x8).setCell ⟨A, 9, none⟩ x9).heap[A]? = some (.cells #[x0, x1, x2, x3, x4, x5, x6, x7, x8, x9] T (0, 0)) := by
  have h : (V.setCell ⟨A, 0, none⟩ x0).heap[A]? = some (.cells #[x0, y1, y2, y3, y4, y5, y6, y7, y8, y9] T (0, 0)) := (Lib.heap_setCell_same h x0).trans rfl
  have h : ((V.setCell ⟨A, 0, none⟩ x0).setCell ⟨A, 1, none⟩ x1).heap[A]? = some (.cells #[x0, x1, y2, y3, y4, y5, y6, y7, y8, y9] T (0, 0)) := (Lib.heap_setCell_same h x1).trans rfl
  have h : (((V.setCell ⟨A, 0, none⟩ x0).setCell ⟨A, 1, none⟩ x1).setCell ⟨A, 2, none⟩ x2).heap[A]? = some (.cells #[x0, x1, x2, y3, y4, y5, y6, y7, y8, y9] T (0, 0)) := (Lib.heap_setCell_same h x2).trans rfl
  have h : ((((V.setCell ⟨A, 0, none⟩ x0).setCell ⟨A, 1, none⟩ x1).setCell ⟨A, 2, none⟩ x2).setCell ⟨A, 3, none⟩ x3).heap[A]? = some (.cells #[x0, x1, x2, x3, y4, y5, y6, y7, y8, y9] T (0, 0)) := (Lib.heap_setCell_same h x3).trans rfl
  have h : (((((V.setCell ⟨A, 0, none⟩ x0).setCell ⟨A, 1, none⟩ x1).setCell ⟨A, 2, none⟩ x2).setCell ⟨A, 3, none⟩ x3).setCell ⟨A, 4, none⟩ x4).heap[A]? = some (.cells #[x0, x1, x2, x3, x4, y5, y6, y7, y8, y9] T (0, 0)) := (Lib.heap_setCell_same h x4).trans rfl
  have h : ((((((V.setCell ⟨A, 0, none⟩ x0).setCell ⟨A, 1, none⟩ x1).setCell ⟨A, 2, none⟩ x2).setCell ⟨A, 3, none⟩ x3).setCell ⟨A, 4, none⟩ x4).setCell ⟨A, 5, none⟩ x5).heap[A]? = some (.cells #[x0, x1, x2, x3, x4, x5, y6, y7, y8, y9] T (0, 0)) := (Lib.heap_setCell_same h x5).trans rfl
  have h : (((((((V.setCell ⟨A, 0, none⟩ x0).setCell ⟨A, 1, none⟩ x1).setCell ⟨A, 2, none⟩ x2).setCell ⟨A, 3, none⟩ x3).setCell ⟨A, 4, none⟩ x4).setCell ⟨A, 5, none⟩ x5).setCell ⟨A, 6, none⟩ x6).heap[A]? = some (.cells #[x0, x1, x2, x3, x4, x5, x6, y7, y8, y9] T (0, 0)) := (Lib.heap_setCell_same h x6).trans rfl
  have h : ((((((((V.setCell ⟨A, 0, none⟩ x0).setCell ⟨A, 1, none⟩ x1).setCell ⟨A, 2, none⟩ x2).setCell ⟨A, 3, none⟩ x3).setCell ⟨A, 4, none⟩ x4).setCell ⟨A, 5, none⟩ x5).setCell ⟨A, 6, none⟩ x6).setCell ⟨A, 7, none⟩ x7).heap[A]? = some (.cells #[x0, x1, x2, x3, x4, x5, x6, x7, y8, y9] T (0, 0)) := (Lib.heap_setCell_same h x7).trans rfl
  have h : (((((((((V.setCell ⟨A, 0, none⟩ x0).setCell ⟨A, 1, none⟩ x1).setCell ⟨A, 2, none⟩ x2).setCell ⟨A, 3, none⟩ x3).setCell ⟨A, 4, none⟩ x4).setCell ⟨A, 5, none⟩ x5).setCell ⟨A, 6, none⟩ x6).setCell ⟨A, 7, none⟩ x7).setCell ⟨A, 8, none⟩ x8).heap[A]? = some (.cells #[x0, x1, x2, x3, x4, x5, x6, x7, x8, y9] T (0, 0)) := (Lib.heap_setCell_same h x8).trans rfl
  have h : ((((((((((V.setCell ⟨A, 0, none⟩ x0).setCell ⟨A, 1, none⟩ x1).setCell ⟨A, 2, none⟩ x2).setCell ⟨A, 3, none⟩ x3).setCell ⟨A, 4, none⟩ x4).setCell ⟨A, 5, none⟩ x5).setCell ⟨A, 6, none⟩ x6).setCell ⟨A, 7, none⟩ x7).setCell ⟨A, 8, none⟩ x8).setCell ⟨A, 9, none⟩ x9).heap[A]? = some (.cells #[x0, x1, x2, x3, x4, x5, x6, x7, x8, x9] T (0, 0)) := (Lib.heap_setCell_same h x9).trans rfl
  exact h

/-- What the last statement leaves. -/
def EndRel (w w1 wc : World) (sl : List UInt8) (x : Script.Step) (cs : Array Value) (b : Bool) (w' : World) : Prop :=
  b = (Script.right x && decide (Script.line x = sl)) ∧ SR w w1 wc w' ∧ w'.heap[w.heap.size]? = some (.cells cs 51 (0, 0))

set_option maxRecDepth 1000000 in
set_option maxHeartbeats 4000000 in
theorem read_end (w w1 wc : World) (sl : List UInt8) (x : Script.Step) (cs : Array Value) (HXS : Hid (∀ U : World, (∀ k, w1.heap.size ≤ k → k < wc.heap.size → U.heap[k]? = wc.heap[k]?) → StepV U x cs)) (HXH : Hid (wc.heap[w1.heap.size]? = some (.cells cs 51 (0, 0))))
    (HAV : Hid (∀ V : World, Below wc.heap.size wc V → V.heap[w.heap.size]? = some (.cells #[.int .i64 0, .string ⟨#[]⟩, .int .i64 0, .int .i64 0, .int .i64 0, .int .i64 0, .int .i64 0, .slice none 0 0, .slice none 0 0, .slice none 0 0] 51 (0, 0))))
    (HWC : Hid (Below w.heap.size w wc)) (HLT : Hid (w.heap.size < w1.heap.size)) (HRD : Hid (∀ V : World, Below wc.heap.size wc V → Ready V))
    {c1 c3 c4 c6 c7 c8 c9 c10 c11 c12 c13 c14 c15 c16 c17 c18 c19 c20 c21 c22 c23 c24 c25 c26 c27 c28 c29 c30 c31 c32 c33 c34 c35 c36 c37 c38 c39 c40 c41 c42 c43 c44 c45 c46 c47 c48 c49 c50 c51 c52 c53 c54 c55 c56 c57 c58 c59 c60 c61 c62 c63 c64 c65 c66 c67 c68 c69 c70 c71 c72 c73 c74 c75 c76 c77 c78 c79 c80 c81 c82 c83 c84 c85 c86 c87 c88 c89 c90 c91 c92 c93 c94 c95 c96 c97 c98 c99 c100 c101 c102 c103 c104 c105 c106 c107 c108 c109 c110 c111 c112 c113 c114 c115 c116 c117 c118 c119 c120 c121 : Value} {K : Act → World → Prop} {post : Ending → World → Prop}
    (hK : ∀ (b : Bool) (v113 v114 v115 v116 v117 v118 v119 v120 v121 : Value) (w' : World), EndRel w w1 wc sl x cs b w' → K ⟨#[.string ⟨⟨sl⟩⟩, c1, .pointer (some ⟨w.heap.size, 0, none⟩), .bool b, c4, .pointer (some ⟨w1.heap.size, 0, none⟩), c6, c7, c8, c9, c10, c11, c12, c13, c14, c15, c16, c17, c18, c19, c20, c21, c22, c23, c24, c25, c26, c27, c28, c29, c30, c31, c32, c33, c34, c35, c36, c37, c38, c39, c40, c41, c42, c43, c44, c45, c46, c47, c48, c49, c50, c51, c52, c53, c54, c55, c56, c57, c58, c59, c60, c61, c62, c63, c64, c65, c66, c67, c68, c69, c70, c71, c72, c73, c74, c75, c76, c77, c78, c79, c80, c81, c82, c83, c84, c85, c86, c87, c88, c89, c90, c91, c92, c93, c94, c95, c96, c97, c98, c99, c100, c101, c102, c103, c104, c105, c106, c107, c108, c109, c110, c111, c112, v113, v114, v115, v116, v117, v118, v119, v120, v121], []⟩ w') :
    Code.wp Tryd.prog read33 (Exit.then K (bodyPost Tryd.prog Tryd.f21 post)) ⟨#[.string ⟨⟨sl⟩⟩, c1, .pointer (some ⟨w.heap.size, 0, none⟩), c3, c4, .pointer (some ⟨w1.heap.size, 0, none⟩), c6, c7, c8, c9, c10, c11, c12, c13, c14, c15, c16, c17, c18, c19, c20, c21, c22, c23, c24, c25, c26, c27, c28, c29, c30, c31, c32, c33, c34, c35, c36, c37, c38, c39, c40, c41, c42, c43, c44, c45, c46, c47, c48, c49, c50, c51, c52, c53, c54, c55, c56, c57, c58, c59, c60, c61, c62, c63, c64, c65, c66, c67, c68, c69, c70, c71, c72, c73, c74, c75, c76, c77, c78, c79, c80, c81, c82, c83, c84, c85, c86, c87, c88, c89, c90, c91, c92, c93, c94, c95, c96, c97, c98, c99, c100, c101, c102, c103, c104, c105, c106, c107, c108, c109, c110, c111, c112, c113, c114, c115, c116, c117, c118, c119, c120, c121], []⟩ wc := by
  have HSV := Lib.hid (fun (V : World) (hV : Below wc.heap.size wc V) => HXS.out V (fun k _ h2 => hV.block k h2))
  obtain ⟨nm5, m0, m1, m2, m3, ta, pa, ka, tc, pc, kc, -, -, rfl, -⟩ := HSV.out wc (Below.refl _ _)
  unfold stepCells at HXH HXS HSV hK
  have HCC := Lib.hid (fun (V : World) (hV : Below wc.heap.size wc V) => ten_cells ((hV.block _ (Array.getElem?_eq_some_iff.1 HXH.out).1).trans HXH.out))
  have HAA := Lib.hid (fun (V : World) (hV : Below wc.heap.size wc V) => ten_cells (HAV.out V hV))
  have hdr := (Below.refl wc.heap.size wc).drew
  have HDR := Lib.hid hdr
  have HRS := Lib.hid (right_step (HSV.out _ hdr))
  obtain ⟨⟨z0, z1, z2, z3, z4, z5, z6, z7, z8, z9⟩, -⟩ := HCC.out _ (Below.refl _ wc)
  clear hdr
  have HKK := Lib.hid hK
  clear hK
  have HSR : Hid (∀ V, SR w w1 wc V → SR w w1 wc V ∧ (V.cell? ⟨w1.heap.size, 0, none⟩ = some (.int .i64 x.kind) ∧ V.cell? ⟨w1.heap.size, 1, none⟩ = some (.string nm5) ∧ V.cell? ⟨w1.heap.size, 2, none⟩ = some (.int .i64 m0) ∧ V.cell? ⟨w1.heap.size, 3, none⟩ = some (.int .i64 m1) ∧ V.cell? ⟨w1.heap.size, 4, none⟩ = some (.int .i64 m2) ∧ V.cell? ⟨w1.heap.size, 5, none⟩ = some (.int .i64 m3) ∧ V.cell? ⟨w1.heap.size, 6, none⟩ = some (.int .i64 x.body.sn) ∧ V.cell? ⟨w1.heap.size, 7, none⟩ = some (.slice ta x.body.tn tc) ∧ V.cell? ⟨w1.heap.size, 8, none⟩ = some (.slice pa x.body.pn pc) ∧ V.cell? ⟨w1.heap.size, 9, none⟩ = some (.slice ka x.body.k.length kc))) :=
    fun V hV => ⟨hV, (ten_cells ((hV.2.1 _ (Nat.le_refl _) (Array.getElem?_eq_some_iff.1 HXH.out).1).trans HXH.out)).1⟩
  have HSR0 := Lib.hid (SR.below (w1 := w1) HWC.out HDR.out)
  have HAH := Lib.hid HAV.out
  clear z0 z1 z2 z3 z4 z5 z6 z7 z8 z9
  conv => arg 2; whnf
  cases hr : Script.right x with
  | false =>
    rw [hr] at HRS
    have HRF := Lib.hid hr
    clear hr
    obtain ⟨⟨z0, z1, z2, z3, z4, z5, z6, z7, z8, z9⟩, -⟩ := HCC.out _ (Below.refl _ wc)
    first
      | go_region_law
          (go_simp; go_at_call 31; refine HRS.out.mono ?_; rintro e v2 ⟨rfl, hb2⟩
           have HBV2 := Lib.hid (HDR.out.trans (hb2.mono HDR.out.size))
           clear hb2
           obtain ⟨⟨z0, z1, z2, z3, z4, z5, z6, z7, z8, z9⟩, -⟩ := HCC.out _ HBV2.out
           obtain ⟨⟨d0, d1, d2, d3, d4, d5, d6, d7, d8, d9⟩, f0, f1, f2, f3, f4, f5, f6, f7, f8, f9⟩ := HAA.out _ HBV2.out)
      | fail
    all_goals
      refine HKK.out false _ _ _ _ _ _ _ _ _ _ ⟨?_, (SR.below HWC.out HBV2.out).exit HLT.out, exit_heap (HAV.out _ HBV2.out)⟩
      rw [HRF.out]; rfl
  | true =>
    rw [hr] at HRS
    have HRF := Lib.hid hr
    clear hr
    by_cases hl : Script.line x = sl
    · have HL := Lib.hid hl
      have hlb : (Script.line x == sl) = true := by rw [beq_iff_eq]; exact hl
      clear hl
      first
        | go_region_held_law (fun V => SR w w1 wc V ∧ (V.cell? ⟨w1.heap.size, 0, none⟩ = some (.int .i64 x.kind) ∧ V.cell? ⟨w1.heap.size, 1, none⟩ = some (.string nm5) ∧ V.cell? ⟨w1.heap.size, 2, none⟩ = some (.int .i64 m0) ∧ V.cell? ⟨w1.heap.size, 3, none⟩ = some (.int .i64 m1) ∧ V.cell? ⟨w1.heap.size, 4, none⟩ = some (.int .i64 m2) ∧ V.cell? ⟨w1.heap.size, 5, none⟩ = some (.int .i64 m3) ∧ V.cell? ⟨w1.heap.size, 6, none⟩ = some (.int .i64 x.body.sn) ∧ V.cell? ⟨w1.heap.size, 7, none⟩ = some (.slice ta x.body.tn tc) ∧ V.cell? ⟨w1.heap.size, 8, none⟩ = some (.slice pa x.body.pn pc) ∧ V.cell? ⟨w1.heap.size, 9, none⟩ = some (.slice ka x.body.k.length kc)))
            (first | (with_reducible exact HSR.out _ HSR0.out) | (with_reducible exact HSR.out _ HSR2.out) | (with_reducible exact HSR.out _ HSR3.out) | (with_reducible exact HSR.out _ (HSR3.out.exit HLT.out)))
            (first
              | (go_at_call 31; refine HRS.out.mono ?_; rintro e v2 ⟨rfl, hb⟩
                 have HBV2 := Lib.hid (HDR.out.trans (hb.mono HDR.out.size))
                 have HSR2 := Lib.hid (SR.below (w1 := w1) HWC.out HBV2.out)
                 clear hb
                 obtain ⟨⟨d0, d1, d2, d3, d4, d5, d6, d7, d8, d9⟩, f0, f1, f2, f3, f4, f5, f6, f7, f8, f9⟩ := HAA.out _ HBV2.out
                 have HLN := Lib.hid (line_any (HSV.out _ HBV2.out) HRF.out (HRD.out _ HBV2.out)))
              | (go_at_call 25; refine HLN.out.mono ?_; rintro e v3 ⟨rfl, hb⟩
                 have HBV3 := Lib.hid (HBV2.out.trans (hb.mono HBV2.out.size))
                 have HSR3 := Lib.hid (SR.below (w1 := w1) HWC.out HBV3.out)
                 clear hb
                 obtain ⟨⟨d0, d1, d2, d3, d4, d5, d6, d7, d8, d9⟩, f0, f1, f2, f3, f4, f5, f6, f7, f8, f9⟩ := HAA.out _ HBV3.out))
        | fail
      all_goals
        refine HKK.out true _ _ _ _ _ _ _ _ _ _ ⟨?_, (SR.below HWC.out HBV3.out).exit HLT.out, exit_heap (HAV.out _ HBV3.out)⟩
        rw [HRF.out, decide_eq_true HL.out]; rfl
    · have HL := Lib.hid hl
      have hlb : (Script.line x == sl) = false := by rw [beq_eq_false_iff_ne]; exact hl
      clear hl
      first
        | go_region_held_law (fun V => SR w w1 wc V ∧ (V.cell? ⟨w1.heap.size, 0, none⟩ = some (.int .i64 x.kind) ∧ V.cell? ⟨w1.heap.size, 1, none⟩ = some (.string nm5) ∧ V.cell? ⟨w1.heap.size, 2, none⟩ = some (.int .i64 m0) ∧ V.cell? ⟨w1.heap.size, 3, none⟩ = some (.int .i64 m1) ∧ V.cell? ⟨w1.heap.size, 4, none⟩ = some (.int .i64 m2) ∧ V.cell? ⟨w1.heap.size, 5, none⟩ = some (.int .i64 m3) ∧ V.cell? ⟨w1.heap.size, 6, none⟩ = some (.int .i64 x.body.sn) ∧ V.cell? ⟨w1.heap.size, 7, none⟩ = some (.slice ta x.body.tn tc) ∧ V.cell? ⟨w1.heap.size, 8, none⟩ = some (.slice pa x.body.pn pc) ∧ V.cell? ⟨w1.heap.size, 9, none⟩ = some (.slice ka x.body.k.length kc)))
            (first | (with_reducible exact HSR.out _ HSR0.out) | (with_reducible exact HSR.out _ HSR2.out) | (with_reducible exact HSR.out _ HSR3.out) | (with_reducible exact HSR.out _ (HSR3.out.exit HLT.out)))
            (first
              | (go_at_call 31; refine HRS.out.mono ?_; rintro e v2 ⟨rfl, hb⟩
                 have HBV2 := Lib.hid (HDR.out.trans (hb.mono HDR.out.size))
                 have HSR2 := Lib.hid (SR.below (w1 := w1) HWC.out HBV2.out)
                 clear hb
                 obtain ⟨⟨d0, d1, d2, d3, d4, d5, d6, d7, d8, d9⟩, f0, f1, f2, f3, f4, f5, f6, f7, f8, f9⟩ := HAA.out _ HBV2.out
                 have HLN := Lib.hid (line_any (HSV.out _ HBV2.out) HRF.out (HRD.out _ HBV2.out)))
              | (go_at_call 25; refine HLN.out.mono ?_; rintro e v3 ⟨rfl, hb⟩
                 have HBV3 := Lib.hid (HBV2.out.trans (hb.mono HBV2.out.size))
                 have HSR3 := Lib.hid (SR.below (w1 := w1) HWC.out HBV3.out)
                 clear hb
                 obtain ⟨⟨d0, d1, d2, d3, d4, d5, d6, d7, d8, d9⟩, f0, f1, f2, f3, f4, f5, f6, f7, f8, f9⟩ := HAA.out _ HBV3.out))
        | fail
      all_goals
        refine HKK.out false _ _ _ _ _ _ _ _ _ _ ⟨?_, (SR.below HWC.out HBV3.out).exit HLT.out, exit_heap (HAV.out _ HBV3.out)⟩
        rw [HRF.out, decide_eq_false HL.out]; rfl

end Go.Proofs.YtjcffbhgjmaicaaDoor
