/-
  Layer 55 (script), the document's Read: a point laid behind the points, over any frame. Printed by wip/gen_refl.py.
-/
import Derived.Test.YtjcffbhgjmaicaaDoorScrRefE
namespace Go.Proofs.YtjcffbhgjmaicaaDoor
open Go.RowKit
open Script
set_option linter.unusedVariables false

noncomputable def rpointCode : Code := ((Tryd.f22.body.bind (findRegion 40)).getD .skip)

/-- What is known behind it. -/
def rpointRel (w1 V : World) (row : List Int) (j vn : Nat) (nm : List UInt8) (n0 n1 n2 n3 : Int) (wx : World) : Prop :=
  ∃ R' : Value, wx.heap[w1.heap.size]? = some (.cells #[.int .i64 1, .string ⟨⟨nm⟩⟩, .int .i64 n0, .int .i64 n1, .int .i64 n2, .int .i64 n3, .int .i64 (vn : Int), .slice none 0 0, R', .slice none 0 0] 59 (0, 0)) ∧ OwnT wx V.heap.size 53 R' (j + 1) (row.take (3 * (j + 1))) ∧ Aside w1.heap.size V wx ∧ Below w1.heap.size w1 wx ∧ V.heap.size ≤ wx.heap.size

set_option maxRecDepth 1000000 in
set_option maxHeartbeats 8000000 in
theorem rpoint_any (w1 V U : World) (row : List Int) (rl cc4 j vn gb ob : Nat) (nm : List UInt8) (n0 n1 n2 n3 : Int) (R : Value) (HRL : Hid (rl = row.length)) (hlt : 3 * j + 2 < rl) (hrl : rl ≤ 100000)
    (HCR : Hid (∀ (i : Nat) (u : Int), row[i]? = some u → U.cell? ⟨gb, ob + i, none⟩ = some (.int .i64 u)))
    (HX : Hid (U.heap[w1.heap.size]? = some (.cells #[.int .i64 1, .string ⟨⟨nm⟩⟩, .int .i64 n0, .int .i64 n1, .int .i64 n2, .int .i64 n3, .int .i64 (vn : Int), .slice none 0 0, R, .slice none 0 0] 59 (0, 0)))) (HR : Hid (OwnT U V.heap.size 53 R j (row.take (3 * j))))
    (HAS : Hid (Aside w1.heap.size V U)) (HBU : Hid (Below w1.heap.size w1 U)) (HSU : Hid (V.heap.size ≤ U.heap.size)) (HAV1 : Hid (w1.heap.size < V.heap.size))
    {c0 c1 c2 c3 c4 c6 c7 c8 c9 c10 c11 c13 c14 c15 c16 c17 c18 c19 c21 c22 c23 c24 c25 c26 c27 c28 c29 c30 c31 c32 c33 c34 c35 c36 c37 c38 c39 c40 c41 c42 c43 c44 c45 c46 c47 c48 c49 c50 c51 c52 c53 c54 c55 c56 c57 c58 c59 c60 c61 c62 c63 c64 c65 c66 c67 c68 c69 c70 c71 c72 c73 c74 c75 c76 c77 c78 c79 c80 c81 c82 c83 c84 c85 c86 c87 c88 c89 c90 c91 c92 c93 c94 c95 c96 c97 c98 c99 c100 c101 c102 c103 c104 c105 c106 c107 c108 c109 c110 c111 c112 c113 c114 c115 c116 c117 c118 c119 c120 c121 c122 c123 c124 c125 c126 c127 c128 c129 c130 c131 c132 c133 c134 c135 c136 c137 c138 c139 c140 c141 c142 c143 c144 c145 c146 c147 c148 c149 c150 c151 c152 c153 c154 c155 c156 c157 c158 c159 c160 c161 c162 c163 c164 c165 c166 c167 c168 c169 c170 c171 c172 c173 c174 c175 c176 c177 c178 c179 c180 c181 c182 c183 c184 c185 c186 c187 c188 c189 c190 c191 c192 c193 c194 c195 c196 c197 c198 c199 c200 c201 c202 c203 c204 c205 c206 c207 c208 c209 c210 c211 c212 c213 c214 c215 c216 c217 c218 c219 c220 c221 c222 c223 c224 c225 c226 c227 c228 c229 c230 c231 c232 c233 c234 c235 c236 c237 c238 c239 c240 c241 c242 c243 c244 c245 c246 c247 c248 c249 c250 c251 c252 c253 c254 c255 c256 c257 c258 c259 c260 c261 c262 c263 c264 c265 c266 c267 c268 c269 c270 c271 c272 : Value} {K J K2 K3 : Act → World → Prop} {post : Ending → World → Prop}
    (hK : ∀ (v191 v192 v193 v194 v195 v196 v197 v198 v199 v200 v201 v202 v203 v204 v205 v206 v207 v208 v209 v210 v211 v212 v213 v214 v215 : Value) (w' : World), rpointRel w1 V row j vn nm n0 n1 n2 n3 w' → K ⟨#[c0, c1, c2, c3, c4, .pointer (some ⟨w1.heap.size, 0, none⟩), c6, c7, c8, c9, c10, c11, .slice (some ⟨gb, ob, none⟩) rl cc4, c13, c14, c15, c16, c17, c18, c19, .int .i64 (j : Int), c21, c22, c23, c24, c25, c26, c27, c28, c29, c30, c31, c32, c33, c34, c35, c36, c37, c38, c39, c40, c41, c42, c43, c44, c45, c46, c47, c48, c49, c50, c51, c52, c53, c54, c55, c56, c57, c58, c59, c60, c61, c62, c63, c64, c65, c66, c67, c68, c69, c70, c71, c72, c73, c74, c75, c76, c77, c78, c79, c80, c81, c82, c83, c84, c85, c86, c87, c88, c89, c90, c91, c92, c93, c94, c95, c96, c97, c98, c99, c100, c101, c102, c103, c104, c105, c106, c107, c108, c109, c110, c111, c112, c113, c114, c115, c116, c117, c118, c119, c120, c121, c122, c123, c124, c125, c126, c127, c128, c129, c130, c131, c132, c133, c134, c135, c136, c137, c138, c139, c140, c141, c142, c143, c144, c145, c146, c147, c148, c149, c150, c151, c152, c153, c154, c155, c156, c157, c158, c159, c160, c161, c162, c163, c164, c165, c166, c167, c168, c169, c170, c171, c172, c173, c174, c175, c176, c177, c178, c179, c180, c181, c182, c183, c184, c185, c186, c187, c188, c189, c190, v191, v192, v193, v194, v195, v196, v197, v198, v199, v200, v201, v202, v203, v204, v205, v206, v207, v208, v209, v210, v211, v212, v213, v214, v215, c216, c217, c218, c219, c220, c221, c222, c223, c224, c225, c226, c227, c228, c229, c230, c231, c232, c233, c234, c235, c236, c237, c238, c239, c240, c241, c242, c243, c244, c245, c246, c247, c248, c249, c250, c251, c252, c253, c254, c255, c256, c257, c258, c259, c260, c261, c262, c263, c264, c265, c266, c267, c268, c269, c270, c271, c272], []⟩ w') :
    Code.wp Tryd.prog rpointCode (Exit.inBlock 7 (Exit.then K (Exit.then J (Exit.inBlock 6 (Exit.then K2 (Exit.then K3 (bodyPost Tryd.prog Tryd.f22 post))))))) ⟨#[c0, c1, c2, c3, c4, .pointer (some ⟨w1.heap.size, 0, none⟩), c6, c7, c8, c9, c10, c11, .slice (some ⟨gb, ob, none⟩) rl cc4, c13, c14, c15, c16, c17, c18, c19, .int .i64 (j : Int), c21, c22, c23, c24, c25, c26, c27, c28, c29, c30, c31, c32, c33, c34, c35, c36, c37, c38, c39, c40, c41, c42, c43, c44, c45, c46, c47, c48, c49, c50, c51, c52, c53, c54, c55, c56, c57, c58, c59, c60, c61, c62, c63, c64, c65, c66, c67, c68, c69, c70, c71, c72, c73, c74, c75, c76, c77, c78, c79, c80, c81, c82, c83, c84, c85, c86, c87, c88, c89, c90, c91, c92, c93, c94, c95, c96, c97, c98, c99, c100, c101, c102, c103, c104, c105, c106, c107, c108, c109, c110, c111, c112, c113, c114, c115, c116, c117, c118, c119, c120, c121, c122, c123, c124, c125, c126, c127, c128, c129, c130, c131, c132, c133, c134, c135, c136, c137, c138, c139, c140, c141, c142, c143, c144, c145, c146, c147, c148, c149, c150, c151, c152, c153, c154, c155, c156, c157, c158, c159, c160, c161, c162, c163, c164, c165, c166, c167, c168, c169, c170, c171, c172, c173, c174, c175, c176, c177, c178, c179, c180, c181, c182, c183, c184, c185, c186, c187, c188, c189, c190, c191, c192, c193, c194, c195, c196, c197, c198, c199, c200, c201, c202, c203, c204, c205, c206, c207, c208, c209, c210, c211, c212, c213, c214, c215, c216, c217, c218, c219, c220, c221, c222, c223, c224, c225, c226, c227, c228, c229, c230, c231, c232, c233, c234, c235, c236, c237, c238, c239, c240, c241, c242, c243, c244, c245, c246, c247, c248, c249, c250, c251, c252, c253, c254, c255, c256, c257, c258, c259, c260, c261, c262, c263, c264, c265, c266, c267, c268, c269, c270, c271, c272], []⟩ U := by
  have HKK := Lib.hid hK
  clear hK
  obtain ⟨x, hx0⟩ : ∃ x, row[3 * j]? = some x := ⟨row[3 * j]'(by rw [← HRL.out]; omega), List.getElem?_eq_getElem _⟩
  obtain ⟨y, hy0⟩ : ∃ y, row[3 * j + 1]? = some y := ⟨row[3 * j + 1]'(by rw [← HRL.out]; omega), List.getElem?_eq_getElem _⟩
  obtain ⟨z, hz0⟩ : ∃ z, row[3 * j + 2]? = some z := ⟨row[3 * j + 2]'(by rw [← HRL.out]; exact hlt), List.getElem?_eq_getElem _⟩
  have HT3 := Lib.hid (take3 hx0 hy0 hz0)
  have k0 := HCR.out _ x hx0
  have k1 := HCR.out _ y hy0
  have k2 := HCR.out _ z hz0
  have px0 : U.cell? ⟨w1.heap.size, 8, none⟩ = some R := by rw [Lib.cell_of_heap HX.out]; rfl
  have HALX := Lib.hid ((Below.alloc (Below.refl U.heap.size U) (Nat.le_refl _) (.cells #[.int .i64 x, .int .i64 y, .int .i64 z] 53)).drew)
  have HSZ : Hid (w1.heap.size < U.heap.size) := (Array.getElem?_eq_some_iff.1 HX.out).1
  have HSX : Hid ((U.alloc (.cells #[.int .i64 x, .int .i64 y, .int .i64 z] 53)).drew.heap.size = U.heap.size + 1) := World.size_alloc _ _
  have hX3 : (U.alloc (.cells #[.int .i64 x, .int .i64 y, .int .i64 z] 53)).heap[w1.heap.size]? = some (.cells #[.int .i64 1, .string ⟨⟨nm⟩⟩, .int .i64 n0, .int .i64 n1, .int .i64 n2, .int .i64 n3, .int .i64 (vn : Int), .slice none 0 0, R, .slice none 0 0] 59 (0, 0)) := (heap_alloc_old _ _ HSZ.out).trans HX.out
  have px3 : (U.alloc (.cells #[.int .i64 x, .int .i64 y, .int .i64 z] 53)).cell? ⟨w1.heap.size, 8, none⟩ = some R := by rw [Lib.cell_of_heap hX3]; rfl
  have HX3 := Lib.hid hX3
  have HOT3 : Hid (OwnT (U.alloc (.cells #[.int .i64 x, .int .i64 y, .int .i64 z] 53)).drew V.heap.size 53 R j (row.take (3 * j))) := OwnT.below (w := U) HR.out HALX.out
  have hjle : j ≤ 1000000 := by omega
  have wp0 : IntKind.i64.wrap (3 * (j : Int)) = 3 * (j : Int) := IntWalk.i64_in _ (by omega)
  have wp1 : IntKind.i64.wrap (3 * (j : Int) + 1) = 3 * (j : Int) + 1 := IntWalk.i64_in _ (by omega)
  have wp2 : IntKind.i64.wrap (3 * (j : Int) + 2) = 3 * (j : Int) + 2 := IntWalk.i64_in _ (by omega)
  have ix0 : 0 ≤ 3 * (j : Int) := by omega
  have ix1 : 3 * (j : Int) < (rl : Int) := by omega
  have ix2 : 0 ≤ 3 * (j : Int) + 1 := by omega
  have ix3 : 3 * (j : Int) + 1 < (rl : Int) := by omega
  have ix4 : 0 ≤ 3 * (j : Int) + 2 := by omega
  have ix5 : 3 * (j : Int) + 2 < (rl : Int) := by omega
  have tn0 : (3 * (j : Int)).toNat = 3 * j := by omega
  have tn1 : (3 * (j : Int) + 1).toNat = 3 * j + 1 := by omega
  have tn2 : (3 * (j : Int) + 2).toNat = 3 * j + 2 := by omega
  clear hx0 hy0 hz0 hX3
  conv => arg 2; whnf
  first
    | go_region_law
        (first
          | (refine step_appendT 45 53 Tryd.underlying45 infoPoint (by rfl) _ _ (by rfl) (by rfl) HOT3.out (by rfl) (by rfl) (ints_new3d U _ x y z) hjle (by rw [HSX.out]; exact Nat.le_succ_of_le HSU.out) ?_
             intro v6 w6 h6 hg6
             have hX6 : w6.heap[w1.heap.size]? = some (.cells #[.int .i64 1, .string ⟨⟨nm⟩⟩, .int .i64 n0, .int .i64 n1, .int .i64 n2, .int .i64 n3, .int .i64 (vn : Int), .slice none 0 0, R, .slice none 0 0] 59 (0, 0)) := (hg6.block _ (by rw [HSX.out]; exact Nat.lt_succ_of_lt HSZ.out) (fun e => by have h1 := (OwnT.lt HR.out _ e.symm).1; have h2 := HAV1.out; omega)).trans HX3.out
             have hf6 : w6.frozen? ⟨w1.heap.size, 8, none⟩ = false := Lib.frozen_of_heap hX6 8
             have px6 : w6.cell? ⟨w1.heap.size, 8, none⟩ = some R := by rw [Lib.cell_of_heap hX6]; rfl
             have HX6 := Lib.hid hX6
             have HB6 := Lib.hid ((HBU.out.alloc (Nat.le_of_lt HSZ.out) (.cells #[.int .i64 x, .int .i64 y, .int .i64 z] 53)).drew.grown hg6 (by rw [HSX.out]; exact Nat.le_succ_of_le (Nat.le_of_lt HSZ.out)) (fun b hb => by have h1 := (OwnT.lt HR.out _ hb).1; have h2 := HAV1.out; omega))
             have HA6 : Hid (Aside w1.heap.size V w6) := fun k h1 h2 => (hg6.block k (by rw [HSX.out]; have := HSU.out; exact Nat.lt_succ_of_lt (Nat.lt_of_lt_of_le h2 this)) (fun e => by have h3 := (OwnT.lt HR.out _ e.symm).1; omega)).trans ((heap_alloc_old _ _ (Nat.lt_of_lt_of_le h2 HSU.out)).trans (HAS.out k h1 h2))
             have HS6 : Hid (V.heap.size ≤ w6.heap.size) := Nat.le_trans (by rw [HSX.out]; exact Nat.le_succ_of_le HSU.out) hg6.size
             rw [← HT3.out] at h6
             have H6 := Lib.hid h6
             obtain ⟨a6, c6, rfl, -, -, -⟩ := h6.ints
             clear hg6 hX6))
    | fail
  all_goals
    (try simp only [Exit.inBlock, Exit.then])
    refine HKK.out _ _ _ _ _ _ _ _ _ _ _ _ _ _ _ _ _ _ _ _ _ _ _ _ _ _ ⟨.slice a6 (j + 1) c6, (Lib.heap_setCell_same HX6.out _).trans rfl, H6.out.set w1.heap.size 8 HAV1.out _, fun k h1 h2 => (Below.heap_setCell _ _ _ _ (by show k ≠ w1.heap.size; omega)).trans (HA6.out k h1 h2), HB6.out.setCell (p := ⟨w1.heap.size, 8, none⟩) (Nat.le_refl _) _, by rw [World.size_setCell]; exact HS6.out⟩

end Go.Proofs.YtjcffbhgjmaicaaDoor
