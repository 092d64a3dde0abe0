/-
  Layer 55 (script): the document's Read: the last statement ('return x, One(x) && Line(x) == s'), over any frame. Printed by wip/gen_rreadend.py.
-/
import Derived.Test.YtjcffbhgjmaicaaDoorScrRefE
namespace Go.Proofs.YtjcffbhgjmaicaaDoor
open Go.RowKit
open Script
set_option linter.unusedVariables false

noncomputable def rread47 : Code := ((Tryd.f22.body.bind (findRegion 47)).getD .skip)

/-- What the last statement leaves. -/
def REndRel (w w1 wc : World) (sl : List UInt8) (x : Script.Step) (cs : Array Value) (b : Bool) (w' : World) : Prop :=
  b = (Script.right x && decide (Script.line x = sl)) ∧ SR w w1 wc w' ∧ w'.heap[w.heap.size]? = some (.cells cs 59 (0, 0))

set_option maxRecDepth 1000000 in
set_option maxHeartbeats 4000000 in
theorem rread_end (w w1 wc : World) (sl : List UInt8) (x : Script.Step) (cs : Array Value) (HXS : Hid (∀ U : World, (∀ k, w1.heap.size ≤ k → k < wc.heap.size → U.heap[k]? = wc.heap[k]?) → StepV U x cs)) (HXH : Hid (wc.heap[w1.heap.size]? = some (.cells cs 59 (0, 0))))
    (HAV : Hid (∀ V : World, Below wc.heap.size wc V → V.heap[w.heap.size]? = some (.cells #[.int .i64 0, .string ⟨#[]⟩, .int .i64 0, .int .i64 0, .int .i64 0, .int .i64 0, .int .i64 0, .slice none 0 0, .slice none 0 0, .slice none 0 0] 59 (0, 0))))
    (HWC : Hid (Below w.heap.size w wc)) (HLT : Hid (w.heap.size < w1.heap.size)) (HLL : Hid (Script.right x = true → (Script.line x).length ≤ 1000000))
    {c1 c3 c4 c6 c7 c8 c9 c10 c11 c12 c13 c14 c15 c16 c17 c18 c19 c20 c21 c22 c23 c24 c25 c26 c27 c28 c29 c30 c31 c32 c33 c34 c35 c36 c37 c38 c39 c40 c41 c42 c43 c44 c45 c46 c47 c48 c49 c50 c51 c52 c53 c54 c55 c56 c57 c58 c59 c60 c61 c62 c63 c64 c65 c66 c67 c68 c69 c70 c71 c72 c73 c74 c75 c76 c77 c78 c79 c80 c81 c82 c83 c84 c85 c86 c87 c88 c89 c90 c91 c92 c93 c94 c95 c96 c97 c98 c99 c100 c101 c102 c103 c104 c105 c106 c107 c108 c109 c110 c111 c112 c113 c114 c115 c116 c117 c118 c119 c120 c121 c122 c123 c124 c125 c126 c127 c128 c129 c130 c131 c132 c133 c134 c135 c136 c137 c138 c139 c140 c141 c142 c143 c144 c145 c146 c147 c148 c149 c150 c151 c152 c153 c154 c155 c156 c157 c158 c159 c160 c161 c162 c163 c164 c165 c166 c167 c168 c169 c170 c171 c172 c173 c174 c175 c176 c177 c178 c179 c180 c181 c182 c183 c184 c185 c186 c187 c188 c189 c190 c191 c192 c193 c194 c195 c196 c197 c198 c199 c200 c201 c202 c203 c204 c205 c206 c207 c208 c209 c210 c211 c212 c213 c214 c215 c216 c217 c218 c219 c220 c221 c222 c223 c224 c225 c226 c227 c228 c229 c230 c231 c232 c233 c234 c235 c236 c237 c238 c239 c240 c241 c242 c243 c244 c245 c246 c247 c248 c249 c250 c251 c252 c253 c254 c255 c256 c257 c258 c259 c260 c261 c262 c263 c264 c265 c266 c267 c268 c269 c270 c271 c272 : Value} {K : Act → World → Prop} {post : Ending → World → Prop}
    (hK : ∀ (b : Bool) (v264 v265 v266 v267 v268 v269 v270 v271 v272 : Value) (w' : World), REndRel w w1 wc sl x cs b w' → K ⟨#[.string ⟨⟨sl⟩⟩, c1, .pointer (some ⟨w.heap.size, 0, none⟩), .bool b, c4, .pointer (some ⟨w1.heap.size, 0, none⟩), c6, c7, c8, c9, c10, c11, c12, c13, c14, c15, c16, c17, c18, c19, c20, c21, c22, c23, c24, c25, c26, c27, c28, c29, c30, c31, c32, c33, c34, c35, c36, c37, c38, c39, c40, c41, c42, c43, c44, c45, c46, c47, c48, c49, c50, c51, c52, c53, c54, c55, c56, c57, c58, c59, c60, c61, c62, c63, c64, c65, c66, c67, c68, c69, c70, c71, c72, c73, c74, c75, c76, c77, c78, c79, c80, c81, c82, c83, c84, c85, c86, c87, c88, c89, c90, c91, c92, c93, c94, c95, c96, c97, c98, c99, c100, c101, c102, c103, c104, c105, c106, c107, c108, c109, c110, c111, c112, c113, c114, c115, c116, c117, c118, c119, c120, c121, c122, c123, c124, c125, c126, c127, c128, c129, c130, c131, c132, c133, c134, c135, c136, c137, c138, c139, c140, c141, c142, c143, c144, c145, c146, c147, c148, c149, c150, c151, c152, c153, c154, c155, c156, c157, c158, c159, c160, c161, c162, c163, c164, c165, c166, c167, c168, c169, c170, c171, c172, c173, c174, c175, c176, c177, c178, c179, c180, c181, c182, c183, c184, c185, c186, c187, c188, c189, c190, c191, c192, c193, c194, c195, c196, c197, c198, c199, c200, c201, c202, c203, c204, c205, c206, c207, c208, c209, c210, c211, c212, c213, c214, c215, c216, c217, c218, c219, c220, c221, c222, c223, c224, c225, c226, c227, c228, c229, c230, c231, c232, c233, c234, c235, c236, c237, c238, c239, c240, c241, c242, c243, c244, c245, c246, c247, c248, c249, c250, c251, c252, c253, c254, c255, c256, c257, c258, c259, c260, c261, c262, c263, v264, v265, v266, v267, v268, v269, v270, v271, v272], []⟩ w') :
    Code.wp Tryd.prog rread47 (Exit.then K (bodyPost Tryd.prog Tryd.f22 post)) ⟨#[.string ⟨⟨sl⟩⟩, c1, .pointer (some ⟨w.heap.size, 0, none⟩), c3, c4, .pointer (some ⟨w1.heap.size, 0, none⟩), c6, c7, c8, c9, c10, c11, c12, c13, c14, c15, c16, c17, c18, c19, c20, c21, c22, c23, c24, c25, c26, c27, c28, c29, c30, c31, c32, c33, c34, c35, c36, c37, c38, c39, c40, c41, c42, c43, c44, c45, c46, c47, c48, c49, c50, c51, c52, c53, c54, c55, c56, c57, c58, c59, c60, c61, c62, c63, c64, c65, c66, c67, c68, c69, c70, c71, c72, c73, c74, c75, c76, c77, c78, c79, c80, c81, c82, c83, c84, c85, c86, c87, c88, c89, c90, c91, c92, c93, c94, c95, c96, c97, c98, c99, c100, c101, c102, c103, c104, c105, c106, c107, c108, c109, c110, c111, c112, c113, c114, c115, c116, c117, c118, c119, c120, c121, c122, c123, c124, c125, c126, c127, c128, c129, c130, c131, c132, c133, c134, c135, c136, c137, c138, c139, c140, c141, c142, c143, c144, c145, c146, c147, c148, c149, c150, c151, c152, c153, c154, c155, c156, c157, c158, c159, c160, c161, c162, c163, c164, c165, c166, c167, c168, c169, c170, c171, c172, c173, c174, c175, c176, c177, c178, c179, c180, c181, c182, c183, c184, c185, c186, c187, c188, c189, c190, c191, c192, c193, c194, c195, c196, c197, c198, c199, c200, c201, c202, c203, c204, c205, c206, c207, c208, c209, c210, c211, c212, c213, c214, c215, c216, c217, c218, c219, c220, c221, c222, c223, c224, c225, c226, c227, c228, c229, c230, c231, c232, c233, c234, c235, c236, c237, c238, c239, c240, c241, c242, c243, c244, c245, c246, c247, c248, c249, c250, c251, c252, c253, c254, c255, c256, c257, c258, c259, c260, c261, c262, c263, c264, c265, c266, c267, c268, c269, c270, c271, c272], []⟩ wc := by
  have HSV := Lib.hid (fun (V : World) (hV : Below wc.heap.size wc V) => HXS.out V (fun k _ h2 => hV.block k h2))
  obtain ⟨nm5, m0, m1, m2, m3, ta, pa, ka, tc, pc, kc, -, -, rfl, -⟩ := HSV.out wc (Below.refl _ _)
  unfold stepCells at HXH HXS HSV hK
  have HCC := Lib.hid (fun (V : World) (hV : Below wc.heap.size wc V) => ten_cells ((hV.block _ (Array.getElem?_eq_some_iff.1 HXH.out).1).trans HXH.out))
  have HAA := Lib.hid (fun (V : World) (hV : Below wc.heap.size wc V) => ten_cells (HAV.out V hV))
  have hdr := (Below.refl wc.heap.size wc).drew
  have HDR := Lib.hid hdr
  have HRS := Lib.hid (rone_any x _ _ (HSV.out _ hdr))
  obtain ⟨⟨z0, z1, z2, z3, z4, z5, z6, z7, z8, z9⟩, -⟩ := HCC.out _ (Below.refl _ wc)
  clear hdr
  have HKK := Lib.hid hK
  clear hK
  have HSR : Hid (∀ V, SR w w1 wc V → SR w w1 wc V ∧ (V.cell? ⟨w1.heap.size, 0, none⟩ = some (.int .i64 x.kind) ∧ V.cell? ⟨w1.heap.size, 1, none⟩ = some (.string nm5) ∧ V.cell? ⟨w1.heap.size, 2, none⟩ = some (.int .i64 m0) ∧ V.cell? ⟨w1.heap.size, 3, none⟩ = some (.int .i64 m1) ∧ V.cell? ⟨w1.heap.size, 4, none⟩ = some (.int .i64 m2) ∧ V.cell? ⟨w1.heap.size, 5, none⟩ = some (.int .i64 m3) ∧ V.cell? ⟨w1.heap.size, 6, none⟩ = some (.int .i64 x.body.sn) ∧ V.cell? ⟨w1.heap.size, 7, none⟩ = some (.slice ta x.body.tn tc) ∧ V.cell? ⟨w1.heap.size, 8, none⟩ = some (.slice pa x.body.pn pc) ∧ V.cell? ⟨w1.heap.size, 9, none⟩ = some (.slice ka x.body.k.length kc))) :=
    fun V hV => ⟨hV, (ten_cells ((hV.2.1 _ (Nat.le_refl _) (Array.getElem?_eq_some_iff.1 HXH.out).1).trans HXH.out)).1⟩
  have HSR0 := Lib.hid (SR.below (w1 := w1) HWC.out HDR.out)
  have HAH := Lib.hid HAV.out
  clear z0 z1 z2 z3 z4 z5 z6 z7 z8 z9
  conv => arg 2; whnf
  cases hr : Script.right x with
  | false =>
    rw [hr] at HRS
    have HRF := Lib.hid hr
    clear hr
    obtain ⟨⟨z0, z1, z2, z3, z4, z5, z6, z7, z8, z9⟩, -⟩ := HCC.out _ (Below.refl _ wc)
    first
      | go_region_law
          (go_simp; go_at_call 27; refine HRS.out.mono ?_; rintro e v2 ⟨rfl, hb2⟩
           have HBV2 := Lib.hid (HDR.out.trans (hb2.mono HDR.out.size))
           clear hb2
           obtain ⟨⟨z0, z1, z2, z3, z4, z5, z6, z7, z8, z9⟩, -⟩ := HCC.out _ HBV2.out
           obtain ⟨⟨d0, d1, d2, d3, d4, d5, d6, d7, d8, d9⟩, f0, f1, f2, f3, f4, f5, f6, f7, f8, f9⟩ := HAA.out _ HBV2.out)
      | fail
    all_goals
      refine HKK.out false _ _ _ _ _ _ _ _ _ _ ⟨?_, (SR.below HWC.out HBV2.out).exit HLT.out, exit_heap (HAV.out _ HBV2.out)⟩
      rw [HRF.out]; rfl
  | true =>
    rw [hr] at HRS
    have HRF := Lib.hid hr
    clear hr
    by_cases hl : Script.line x = sl
    · have HL := Lib.hid hl
      have hlb : (Script.line x == sl) = true := by rw [beq_iff_eq]; exact hl
      clear hl
      first
        | go_region_held_law (fun V => SR w w1 wc V ∧ (V.cell? ⟨w1.heap.size, 0, none⟩ = some (.int .i64 x.kind) ∧ V.cell? ⟨w1.heap.size, 1, none⟩ = some (.string nm5) ∧ V.cell? ⟨w1.heap.size, 2, none⟩ = some (.int .i64 m0) ∧ V.cell? ⟨w1.heap.size, 3, none⟩ = some (.int .i64 m1) ∧ V.cell? ⟨w1.heap.size, 4, none⟩ = some (.int .i64 m2) ∧ V.cell? ⟨w1.heap.size, 5, none⟩ = some (.int .i64 m3) ∧ V.cell? ⟨w1.heap.size, 6, none⟩ = some (.int .i64 x.body.sn) ∧ V.cell? ⟨w1.heap.size, 7, none⟩ = some (.slice ta x.body.tn tc) ∧ V.cell? ⟨w1.heap.size, 8, none⟩ = some (.slice pa x.body.pn pc) ∧ V.cell? ⟨w1.heap.size, 9, none⟩ = some (.slice ka x.body.k.length kc)))
            (first | (with_reducible exact HSR.out _ HSR0.out) | (with_reducible exact HSR.out _ HSR2.out) | (with_reducible exact HSR.out _ HSR3.out) | (with_reducible exact HSR.out _ (HSR3.out.exit HLT.out)))
            (first
              | (go_at_call 27; refine HRS.out.mono ?_; rintro e v2 ⟨rfl, hb⟩
                 have HBV2 := Lib.hid (HDR.out.trans (hb.mono HDR.out.size))
                 have HSR2 := Lib.hid (SR.below (w1 := w1) HWC.out HBV2.out)
                 clear hb
                 obtain ⟨⟨d0, d1, d2, d3, d4, d5, d6, d7, d8, d9⟩, f0, f1, f2, f3, f4, f5, f6, f7, f8, f9⟩ := HAA.out _ HBV2.out
                 have HLN := Lib.hid (rline_any x _ _ (HSV.out _ HBV2.out) HRF.out (HLL.out HRF.out)))
              | (go_at_call 28; refine HLN.out.mono ?_; rintro e v3 ⟨rfl, hb⟩
                 have HBV3 := Lib.hid (HBV2.out.trans (hb.mono HBV2.out.size))
                 have HSR3 := Lib.hid (SR.below (w1 := w1) HWC.out HBV3.out)
                 clear hb
                 obtain ⟨⟨d0, d1, d2, d3, d4, d5, d6, d7, d8, d9⟩, f0, f1, f2, f3, f4, f5, f6, f7, f8, f9⟩ := HAA.out _ HBV3.out))
        | fail
      all_goals
        refine HKK.out true _ _ _ _ _ _ _ _ _ _ ⟨?_, (SR.below HWC.out HBV3.out).exit HLT.out, exit_heap (HAV.out _ HBV3.out)⟩
        rw [HRF.out, decide_eq_true HL.out]; rfl
    · have HL := Lib.hid hl
      have hlb : (Script.line x == sl) = false := by rw [beq_eq_false_iff_ne]; exact hl
      clear hl
      first
        | go_region_held_law (fun V => SR w w1 wc V ∧ (V.cell? ⟨w1.heap.size, 0, none⟩ = some (.int .i64 x.kind) ∧ V.cell? ⟨w1.heap.size, 1, none⟩ = some (.string nm5) ∧ V.cell? ⟨w1.heap.size, 2, none⟩ = some (.int .i64 m0) ∧ V.cell? ⟨w1.heap.size, 3, none⟩ = some (.int .i64 m1) ∧ V.cell? ⟨w1.heap.size, 4, none⟩ = some (.int .i64 m2) ∧ V.cell? ⟨w1.heap.size, 5, none⟩ = some (.int .i64 m3) ∧ V.cell? ⟨w1.heap.size, 6, none⟩ = some (.int .i64 x.body.sn) ∧ V.cell? ⟨w1.heap.size, 7, none⟩ = some (.slice ta x.body.tn tc) ∧ V.cell? ⟨w1.heap.size, 8, none⟩ = some (.slice pa x.body.pn pc) ∧ V.cell? ⟨w1.heap.size, 9, none⟩ = some (.slice ka x.body.k.length kc)))
            (first | (with_reducible exact HSR.out _ HSR0.out) | (with_reducible exact HSR.out _ HSR2.out) | (with_reducible exact HSR.out _ HSR3.out) | (with_reducible exact HSR.out _ (HSR3.out.exit HLT.out)))
            (first
              | (go_at_call 27; refine HRS.out.mono ?_; rintro e v2 ⟨rfl, hb⟩
                 have HBV2 := Lib.hid (HDR.out.trans (hb.mono HDR.out.size))
                 have HSR2 := Lib.hid (SR.below (w1 := w1) HWC.out HBV2.out)
                 clear hb
                 obtain ⟨⟨d0, d1, d2, d3, d4, d5, d6, d7, d8, d9⟩, f0, f1, f2, f3, f4, f5, f6, f7, f8, f9⟩ := HAA.out _ HBV2.out
                 have HLN := Lib.hid (rline_any x _ _ (HSV.out _ HBV2.out) HRF.out (HLL.out HRF.out)))
              | (go_at_call 28; refine HLN.out.mono ?_; rintro e v3 ⟨rfl, hb⟩
                 have HBV3 := Lib.hid (HBV2.out.trans (hb.mono HBV2.out.size))
                 have HSR3 := Lib.hid (SR.below (w1 := w1) HWC.out HBV3.out)
                 clear hb
                 obtain ⟨⟨d0, d1, d2, d3, d4, d5, d6, d7, d8, d9⟩, f0, f1, f2, f3, f4, f5, f6, f7, f8, f9⟩ := HAA.out _ HBV3.out))
        | fail
      all_goals
        refine HKK.out false _ _ _ _ _ _ _ _ _ _ ⟨?_, (SR.below HWC.out HBV3.out).exit HLT.out, exit_heap (HAV.out _ HBV3.out)⟩
        rw [HRF.out, decide_eq_false HL.out]; rfl

end Go.Proofs.YtjcffbhgjmaicaaDoor
