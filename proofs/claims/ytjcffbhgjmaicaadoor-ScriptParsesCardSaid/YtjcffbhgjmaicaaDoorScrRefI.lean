/-
  Layer 55 (script), the document's Read: the block that reads a body, over any frame. Printed by wip/gen_refi.py.
-/
import Derived.Test.YtjcffbhgjmaicaaDoorScrRefL
import Derived.Test.YtjcffbhgjmaicaaDoorScrRefM
namespace Go.Proofs.YtjcffbhgjmaicaaDoor
open Go.RowKit
open Script
set_option linter.unusedVariables false

def hasRegion (n : Nat) : Code → Bool
  | .region m _ _ => m == n
  | .seq a b => hasRegion n a || hasRegion n b
  | .block _ c => hasRegion n c
  | .scope c => hasRegion n c
  | .loop c => hasRegion n c
  | .cond _ a b => hasRegion n a || hasRegion n b
  | _ => false

/-- The condition whose first branch holds region n, the innermost one. -/
def findCond (n : Nat) : Code → Option Code
  | .seq a b => match findCond n a with
    | some c => some c
    | none => findCond n b
  | .block _ c => findCond n c
  | .scope c => findCond n c
  | .loop c => findCond n c
  | .cond x a b => match findCond n a with
    | some c => some c
    | none => match findCond n b with
      | some c => some c
      | none => if hasRegion n a then some (.cond x a b) else none
  | _ => none
noncomputable def rreadPut : Code := ((Tryd.f22.body.bind (findCond 31)).getD .skip)

set_option maxRecDepth 1000000 in
set_option maxHeartbeats 8000000 in
theorem rread_put (l : List UInt8) (w w1 : World) (cw : Option Script.Step) (nm : List UInt8) (L : List Int) (q : Nat) (a2 : Option Addr) (c2 : Nat) (n0 n1 n2 n3 : Int) (wn V : World)
    (HCAND : Hid (readOf l = match cw with | none => none | some x => if right x = true ∧ line x = l then some x else none))
    (HCB : Hid (cw = match bodyD (L.drop 1) with | none => none | some b => some { kind := 1, name := nm, n := Script.pad (L.take 1), body := b }))
    (HR2 : Hid (∀ U, Aside w1.heap.size wn U → Ints U a2 L)) (hle : q ≤ c2) (HCM1 : Hid (c2 ≤ maxLen)) (hmq : 1 ≤ q) (hq2 : q ≤ 2001) (HQ : Hid (q = L.length)) (HLB : Hid (∀ x ∈ L, -10000000009 ≤ x ∧ x ≤ 10000000009))
    (HAV : Hid (∀ V : World, Below w1.heap.size w1 V → V.heap[w.heap.size]? = some (.cells #[.int .i64 0, .string ⟨#[]⟩, .int .i64 0, .int .i64 0, .int .i64 0, .int .i64 0, .int .i64 0, .slice none 0 0, .slice none 0 0, .slice none 0 0] 59 (0, 0))))
    (HBB : Hid (∀ V : World, Below w1.heap.size w1 V → Below w.heap.size w V))
    (HX : Hid (V.heap[w1.heap.size]? = some (.cells (stepCells 1 ⟨⟨nm⟩⟩ n0 n1 n2 n3 Script.emptyB none none none 0 0 0) 59 (0, 0))))
    (HBV : Hid (Below w1.heap.size w1 V)) (HAS : Hid (Aside w1.heap.size wn V)) (HSV : Hid (wn.heap.size ≤ V.heap.size)) (HPAD : Hid (Script.pad (L.take 1) = [n0, n1, n2, n3])) (HNL : Hid (nm.length ≤ 2000))
    {c1 c3 c4 c6 c7 c8 c9 c10 c11 c13 c14 c15 c16 c17 c18 c19 c20 c21 c22 c23 c24 c25 c26 c27 c28 c29 c30 c31 c32 c33 c34 c35 c36 c37 c38 c39 c40 c41 c42 c43 c44 c45 c46 c47 c48 c49 c50 c51 c52 c53 c54 c55 c56 c57 c58 c59 c60 c61 c62 c63 c64 c65 c66 c67 c68 c69 c70 c71 c72 c73 c74 c75 c76 c77 c78 c79 c80 c81 c82 c83 c84 c85 c86 c87 c88 c89 c90 c91 c92 c93 c94 c95 c96 c97 c98 c99 c100 c101 c102 c103 c104 c105 c106 c107 c108 c109 c110 c111 c112 c113 c114 c116 c117 c118 c119 c120 c121 c122 c123 c124 c125 c126 c127 c128 c129 c130 c131 c132 c133 c134 c135 c136 c137 c138 c139 c140 c141 c142 c143 c144 c145 c146 c147 c148 c149 c150 c151 c152 c153 c154 c155 c156 c157 c158 c159 c160 c161 c162 c163 c164 c165 c166 c167 c168 c169 c170 c171 c172 c173 c174 c175 c176 c177 c178 c179 c180 c181 c182 c183 c184 c185 c186 c187 c188 c189 c190 c191 c192 c193 c194 c195 c196 c197 c198 c199 c200 c201 c202 c203 c204 c205 c206 c207 c208 c209 c210 c211 c212 c213 c214 c215 c216 c217 c218 c219 c220 c221 c222 c223 c224 c225 c226 c227 c228 c229 c230 c231 c232 c233 c234 c235 c236 c237 c238 c239 c240 c241 c242 c243 c244 c245 c246 c247 c248 c249 c250 c251 c252 c253 c254 c255 c256 c257 c258 c259 c260 c261 c262 c263 c264 c265 c266 c267 c268 c269 c270 c271 c272 : Value} {K : Act → World → Prop}
    (hK : ∀ (v12 v17 v18 v19 v20 v21 v116 v117 v118 v119 v120 v121 v122 v123 v124 v125 v126 v127 v128 v129 v130 v131 v132 v133 v134 v135 v136 v137 v138 v139 v140 v141 v142 v143 v144 v145 v146 v147 v148 v149 v150 v151 v152 v153 v154 v155 v156 v157 v158 v159 v160 v161 v162 v163 v164 v165 v166 v167 v168 v169 v170 v171 v172 v173 v174 v175 v176 v177 v178 v179 v180 v181 v182 v183 v184 v185 v186 v187 v188 v189 v190 v191 v192 v193 v194 v195 v196 v197 v198 v199 v200 v201 v202 v203 v204 v205 v206 v207 v208 v209 v210 v211 v212 v213 v214 v215 v216 v217 v218 v219 v220 v221 v222 v223 v224 v225 v226 v227 v228 v229 v230 v231 v232 v233 v234 v235 v236 v237 v238 v239 v240 v241 v242 v243 v244 v245 v246 v247 v248 v249 v250 v251 v252 v253 v254 v255 v256 v257 v258 v259 v260 v261 v262 v263 : Value) (w' : World), RFin w1 cw 2001 w' → K ⟨#[.string ⟨⟨l⟩⟩, c1, .pointer (some ⟨w.heap.size, 0, none⟩), c3, c4, .pointer (some ⟨w1.heap.size, 0, none⟩), c6, c7, c8, c9, c10, c11, v12, c13, c14, c15, c16, v17, v18, v19, v20, v21, c22, c23, c24, c25, c26, c27, c28, c29, c30, c31, c32, c33, c34, c35, c36, c37, c38, c39, c40, c41, c42, c43, c44, c45, c46, c47, c48, c49, c50, c51, c52, c53, c54, c55, c56, c57, c58, c59, c60, c61, c62, c63, c64, c65, c66, c67, c68, c69, c70, c71, c72, c73, c74, c75, c76, c77, c78, c79, c80, c81, c82, c83, c84, c85, c86, c87, c88, c89, c90, c91, c92, c93, c94, c95, c96, c97, c98, c99, c100, c101, c102, c103, c104, c105, c106, c107, c108, c109, c110, c111, c112, c113, c114, .bool true, v116, v117, v118, v119, v120, v121, v122, v123, v124, v125, v126, v127, v128, v129, v130, v131, v132, v133, v134, v135, v136, v137, v138, v139, v140, v141, v142, v143, v144, v145, v146, v147, v148, v149, v150, v151, v152, v153, v154, v155, v156, v157, v158, v159, v160, v161, v162, v163, v164, v165, v166, v167, v168, v169, v170, v171, v172, v173, v174, v175, v176, v177, v178, v179, v180, v181, v182, v183, v184, v185, v186, v187, v188, v189, v190, v191, v192, v193, v194, v195, v196, v197, v198, v199, v200, v201, v202, v203, v204, v205, v206, v207, v208, v209, v210, v211, v212, v213, v214, v215, v216, v217, v218, v219, v220, v221, v222, v223, v224, v225, v226, v227, v228, v229, v230, v231, v232, v233, v234, v235, v236, v237, v238, v239, v240, v241, v242, v243, v244, v245, v246, v247, v248, v249, v250, v251, v252, v253, v254, v255, v256, v257, v258, v259, v260, v261, v262, v263, c264, c265, c266, c267, c268, c269, c270, c271, c272], []⟩ w') :
    Code.wp Tryd.prog rreadPut (Exit.then K (bodyPost Tryd.prog Tryd.f22 fun e w' => RReadRes w w' (readOf l) e ∧ Below w.heap.size w w')) ⟨#[.string ⟨⟨l⟩⟩, c1, .pointer (some ⟨w.heap.size, 0, none⟩), c3, c4, .pointer (some ⟨w1.heap.size, 0, none⟩), c6, c7, c8, c9, c10, c11, .slice a2 q c2, c13, c14, c15, c16, c17, c18, c19, c20, c21, c22, c23, c24, c25, c26, c27, c28, c29, c30, c31, c32, c33, c34, c35, c36, c37, c38, c39, c40, c41, c42, c43, c44, c45, c46, c47, c48, c49, c50, c51, c52, c53, c54, c55, c56, c57, c58, c59, c60, c61, c62, c63, c64, c65, c66, c67, c68, c69, c70, c71, c72, c73, c74, c75, c76, c77, c78, c79, c80, c81, c82, c83, c84, c85, c86, c87, c88, c89, c90, c91, c92, c93, c94, c95, c96, c97, c98, c99, c100, c101, c102, c103, c104, c105, c106, c107, c108, c109, c110, c111, c112, c113, c114, .bool true, c116, c117, c118, c119, c120, c121, c122, c123, c124, c125, c126, c127, c128, c129, c130, c131, c132, c133, c134, c135, c136, c137, c138, c139, c140, c141, c142, c143, c144, c145, c146, c147, c148, c149, c150, c151, c152, c153, c154, c155, c156, c157, c158, c159, c160, c161, c162, c163, c164, c165, c166, c167, c168, c169, c170, c171, c172, c173, c174, c175, c176, c177, c178, c179, c180, c181, c182, c183, c184, c185, c186, c187, c188, c189, c190, c191, c192, c193, c194, c195, c196, c197, c198, c199, c200, c201, c202, c203, c204, c205, c206, c207, c208, c209, c210, c211, c212, c213, c214, c215, c216, c217, c218, c219, c220, c221, c222, c223, c224, c225, c226, c227, c228, c229, c230, c231, c232, c233, c234, c235, c236, c237, c238, c239, c240, c241, c242, c243, c244, c245, c246, c247, c248, c249, c250, c251, c252, c253, c254, c255, c256, c257, c258, c259, c260, c261, c262, c263, c264, c265, c266, c267, c268, c269, c270, c271, c272], []⟩ V := by
  have HKK := Lib.hid hK
  clear hK
  conv => arg 2; whnf
  obtain ⟨p, hp⟩ : ∃ p, p = q - 1 := ⟨_, rfl⟩
  obtain ⟨A3, hA3, hA3i⟩ := tail_intsI a2 q c2 hle HCM1.out 1 hmq 1 rfl
  rw [← hp] at hA3
  have HR3 : Hid (∀ U, Aside w1.heap.size wn U → Ints U A3 (L.drop 1)) := fun U hU => hA3i U L HQ.out.symm (HR2.out U hU)
  have HLB3 : Hid (∀ x ∈ L.drop 1, -10000000009 ≤ x ∧ x ≤ 10000000009) := fun x hx => HLB.out x (List.mem_of_mem_drop hx)
  have hpl : (L.drop 1).length = p := by rw [List.length_drop, ← HQ.out, hp]
  have hp2 : p ≤ 2000 := by omega
  have hpc : p ≤ c2 - 1 := by omega
  have hcm3 : c2 - 1 ≤ maxLen := by have := HCM1.out; omega
  generalize L.drop 1 = M at *
  clear hA3i hp
  by_cases hp3 : p < 3
  · have HRES : Hid (Script.readOf l = none) := by show _ = _; rw [HCAND.out, HCB.out, bodyD_short (by rw [hpl]; exact hp3)]
    have hd3 : decide ((p : Int) < 3) = true := by rw [decide_eq_true_iff]; omega
    clear hpl hp3
    go_wp2_with fail
    go_quiet (fail)
    refine k_at (K := _) ?_
    intro V2 hV2
    have HB2 := Lib.hid (show Below w1.heap.size w1 V2 by rw [hV2]; exact below_drewL HBV.out _)
    clear hV2
    have hab := HAV.out _ (HB2.out)
    obtain ⟨⟨d0, d1, d2, d3, d4, d5, d6, d7, d8, d9⟩, f0, f1, f2, f3, f4, f5, f6, f7, f8, f9⟩ := ten_cells hab
    clear hab 
    go_wp2_with fail
    (try simp only [Exit.inBlock, Exit.then])
    refine bodyPost_ret (by simp [results, Tryd.results22, go_sem, d0, d1, d2, d3, d4, d5, d6, d7, d8, d9]; try rfl) rfl ?_
    refine ⟨?_, exit_below (HBB.out _ (HB2.out))⟩
    unfold RReadRes
    rw [HRES.out]
    exact ⟨0, ⟨#[]⟩, 0, 0, 0, 0, Script.emptyB, none, none, none, 0, 0, 0, rfl⟩
  · have hd3 : decide ((p : Int) < 3) = false := by rw [decide_eq_false_iff_not]; omega
    rcases M with _ | ⟨v, _ | ⟨t, _ | ⟨k, r⟩⟩⟩
    · simp at hpl; omega
    · simp at hpl; omega
    · simp at hpl; omega
    have hpr : p = r.length + 3 := by rw [← hpl]; rfl
    obtain ⟨rl, hrl⟩ : ∃ rl, rl = r.length := ⟨_, rfl⟩
    have HRL := Lib.hid hrl
    rw [← hrl] at hpr
    have HPR := Lib.hid hpr
    have hv := HLB3.out v (by simp)
    have ht := HLB3.out t (by simp)
    have hk := HLB3.out k (by simp)
    have hin := HR3.out V HAS.out
    obtain ⟨b3, o3, rfl, hc3⟩ := hin.at_ (by simp)
    have g0 := hc3 0 v rfl
    have g1 := hc3 1 t rfl
    have g2 := hc3 2 k rfl
    rw [Nat.add_zero] at g0
    have HG : Hid (∀ U, Below V.heap.size V U → U.cell? ⟨b3, o3, none⟩ = some (.int .i64 v) ∧ U.cell? ⟨b3, o3 + 1, none⟩ = some (.int .i64 t) ∧ U.cell? ⟨b3, o3 + 2, none⟩ = some (.int .i64 k)) := fun U hU => ⟨(hU.cell (lt_of_cell g0)).trans g0, (hU.cell (lt_of_cell g1)).trans g1, (hU.cell (lt_of_cell g2)).trans g2⟩
    have HBD2 : Hid (bodyD (v :: t :: k :: r) = if 0 ≤ v ∧ 0 ≤ t ∧ 0 ≤ k ∧ v ≤ 4096 ∧ t ≤ 8192 ∧ (rl : Int) = 3 * v + 3 * t + k then some (bodyTold v t r) else none) := by show _ = _; rw [HRL.out]; rfl
    clear hin hc3 hpl hrl
    by_cases hok : 0 ≤ v ∧ 0 ≤ t ∧ 0 ≤ k ∧ v ≤ 4096 ∧ t ≤ 8192 ∧ (rl : Int) = 3 * v + 3 * t + k
    · have HCK := Lib.hid HCB.out
      rw [HBD2.out, if_pos hok] at HCK
      obtain ⟨q1, q2, q3, q4, q5, q6⟩ := hok
      obtain ⟨vn, rfl⟩ := Int.eq_ofNat_of_zero_le q1
      obtain ⟨tn, rfl⟩ := Int.eq_ofNat_of_zero_le q2
      obtain ⟨kn, rfl⟩ := Int.eq_ofNat_of_zero_le q3
      have e7 : ((p : Int) != 3 + 3 * (vn : Int) + 3 * (tn : Int) + (kn : Int)) = false := by rw [bne_eq_false_iff_eq]; omega
      have HRV : Hid (rl = 3 * vn + 3 * tn + kn) := by show _ = _; omega
      have b1 : decide ((vn : Int) < 0) = false := by rw [decide_eq_false_iff_not]; omega
      have b2 : decide ((tn : Int) < 0) = false := by rw [decide_eq_false_iff_not]; omega
      have b3' : decide ((kn : Int) < 0) = false := by rw [decide_eq_false_iff_not]; omega
      have b4 : decide ((4096 : Int) < (vn : Int)) = false := by rw [decide_eq_false_iff_not]; omega
      have b5 : decide ((8192 : Int) < (tn : Int)) = false := by rw [decide_eq_false_iff_not]; omega
      have hkn2 : kn ≤ 2000 := by omega
      clear q6 hpr
      go_wp2_with fail
      go_quiet (fail)
      refine k_at (K := _) ?_
      intro V2 hV2
      have hb2 : Below V.heap.size V V2 := by rw [hV2]; exact below_drewL (Below.refl _ _) _
      obtain ⟨g0', g1', g2'⟩ := HG.out V2 hb2
      have HB2 := Lib.hid hb2
      clear hV2 g0 g1 g2 e7 hb2 b1 b2 b3' b4 b5 hd3
      go_wp2_with fail
      go_quiet (fail)
      refine k_at (K := _) ?_
      intro V4 hV4
      have hb4 : Below V.heap.size V V4 := by rw [hV4]; exact below_drewL HB2.out _
      obtain ⟨A4, hA4, hA4i⟩ := tail_intsI (some ⟨b3, o3, none⟩) p (c2 - 1) hpc hcm3 3 (by omega) 3 rfl
      rw [show p - 3 = rl from by have := HPR.out; omega] at hA4
      obtain ⟨c4, hc4⟩ : ∃ c4, c4 = c2 - 1 - 3 := ⟨_, rfl⟩
      have HC4 : Hid (rl ≤ c4 ∧ c4 ≤ maxLen) := by show _ ∧ _; have := HPR.out; omega
      rw [← hc4] at hA4
      have HR4 : Hid (∀ U, Aside w1.heap.size V U → Ints U A4 r) := fun U hU => hA4i U _ (by rw [HPR.out, HRL.out]; rfl) (HR3.out U (fun k h1 h2 => (hU k h1 (Nat.lt_of_lt_of_le h2 HSV.out)).trans (HAS.out k h1 h2)))
      have HAV1 : Hid (w1.heap.size < V.heap.size) := (Array.getElem?_eq_some_iff.1 HX.out).1
      have hx4 := (hb4.block _ HAV1.out).trans HX.out
      have HX4 := Lib.hid hx4
      unfold stepCells Script.emptyB at hx4
      obtain ⟨⟨-, -, -, -, -, -, z6, -, -, -⟩, -, -, -, -, -, -, y6, -, -, -⟩ := ten_cells hx4
      have HXS5 : Hid ((V4.setCell ⟨w1.heap.size, 6, none⟩ (.int .i64 (vn : Int))).heap[w1.heap.size]? = some (.cells #[.int .i64 1, .string ⟨⟨nm⟩⟩, .int .i64 n0, .int .i64 n1, .int .i64 n2, .int .i64 n3, .int .i64 (vn : Int), .slice none 0 0, .slice none 0 0, .slice none 0 0] 59 (0, 0))) := (Lib.heap_setCell_same HX4.out _).trans rfl
      have HAS5 : Hid (Aside w1.heap.size V (V4.setCell ⟨w1.heap.size, 6, none⟩ (.int .i64 (vn : Int)))) := fun k h1 h2 => (Below.heap_setCell _ _ _ _ (by show k ≠ w1.heap.size; omega)).trans (hb4.block k h2)
      have HBS5 : Hid (Below w1.heap.size w1 (V4.setCell ⟨w1.heap.size, 6, none⟩ (.int .i64 (vn : Int)))) := (HBV.out.trans (hb4.mono (Nat.le_of_lt HAV1.out))).setCell (p := ⟨w1.heap.size, 6, none⟩) (Nat.le_refl _) _
      have HSS5 : Hid (V.heap.size ≤ (V4.setCell ⟨w1.heap.size, 6, none⟩ (.int .i64 (vn : Int))).heap.size) := by show _ ≤ _; rw [World.size_setCell]; exact hb4.size
      clear hV4 g0' g1' g2' hA4i hb4 hx4 HB2 HG HX4 hc4 hpc hcm3 hk hv ht hp3 hA3 HR3 HLB3
      go_wp2_with fail
      go_loopw [20] (fun i U => ∃ (j : Nat) (R : Value), j ≤ vn ∧ i = .int .i64 (j : Int) ∧ U.heap[w1.heap.size]? = some (.cells #[.int .i64 1, .string ⟨⟨nm⟩⟩, .int .i64 n0, .int .i64 n1, .int .i64 n2, .int .i64 n3, .int .i64 (vn : Int), .slice none 0 0, R, .slice none 0 0] 59 (0, 0)) ∧ OwnT U V.heap.size 53 R j (r.take (3 * j)) ∧ Aside w1.heap.size V U ∧ Below w1.heap.size w1 U ∧ V.heap.size ≤ U.heap.size) (fun i _ => vn - (intOf i).toNat)
      case atStart => exact ⟨0, _, Nat.zero_le _, rfl, HXS5.out, OwnT.nil _ _ _, HAS5.out, HBS5.out, HSS5.out⟩
      case round =>
        obtain ⟨U, rfl⟩ : ∃ U, U = wr := ⟨_, rfl⟩
        obtain ⟨j, R, hj, rfl, hx, hR, has, hbu, hsu⟩ := hrel
        have HX := Lib.hid hx
        have HR := Lib.hid hR
        have HAS := Lib.hid has
        have HBU := Lib.hid hbu
        have HSU := Lib.hid hsu
        clear hx hR has hbu hsu
        by_cases hjv : j < vn
        · have hlt : 3 * j + 2 < rl := by have := HRV.out; omega
          obtain ⟨gb, ob, rfl, hcr⟩ := (HR4.out U HAS.out).at_ (by rw [← HRL.out]; omega)
          have HCR := Lib.hid hcr
          clear hcr
          go_wp2_with fail
          refine rpoint_any w1 V U r rl _ j vn gb ob nm n0 n1 n2 n3 R HRL hlt (by have := HRV.out; omega) HCR HX HR HAS HBU HSU HAV1 ?_
          intro v191 v192 v193 v194 v195 v196 v197 v198 v199 v200 v201 v202 v203 v204 v205 v206 v207 v208 v209 v210 v211 v212 v213 v214 v215 w6 hrel6
          have HL6 := Lib.hid hrel6
          clear hrel6
          dsimp only
          go_wp2_with fail
          go_roundw
          case rel =>
            obtain ⟨R', hrest⟩ := HL6.out
            exact ⟨j + 1, R', by omega, by go_num, hrest⟩
          case measure => simp [intOf]; omega
        · obtain rfl : vn = j := by omega
          have HRV2 : Hid (rl - 3 * vn = 3 * tn + kn) := by show _ = _; have := HRV.out; omega
          obtain ⟨A5, hA5, hA5i⟩ := tail_intsI A4 rl c4 HC4.out.1 HC4.out.2 (3 * vn) (by have := HRV.out; omega) (3 * (vn : Int)) (by omega)
          obtain ⟨rl2, hrl2⟩ : ∃ rl2, rl2 = rl - 3 * vn := ⟨_, rfl⟩
          obtain ⟨c5, hc5⟩ : ∃ c5, c5 = c4 - 3 * vn := ⟨_, rfl⟩
          have HC5 : Hid (rl2 ≤ c5 ∧ c5 ≤ maxLen) := by show _ ∧ _; have := HC4.out; omega
          rw [← hrl2] at hA5 HRV2
          rw [← hc5] at hA5
          have HR5 : Hid (∀ U, Aside w1.heap.size V U → Ints U A5 (r.drop (3 * vn))) := fun U hU => hA5i U r HRL.out.symm (HR4.out U hU)
          have HRL2 : Hid (rl2 = (r.drop (3 * vn)).length) := by show _ = _; rw [List.length_drop, ← HRL.out]; exact hrl2
          have HR2D : Hid (r.drop (3 * vn + 3 * tn) = (r.drop (3 * vn)).drop (3 * tn)) := by show _ = _; rw [List.drop_drop]
          have HTD : Hid ((bodyTold vn tn r).t = (r.drop (3 * vn)).take (3 * tn)) := rfl
          generalize r.drop (3 * vn) = r2 at *
          obtain ⟨aP, cP, hPe, -, -, -⟩ := HR.out.ints
          obtain ⟨P, hP⟩ : ∃ P, P = R := ⟨_, rfl⟩
          rw [← hP] at HX HR
          have HP5 := Lib.hid HR.out
          have HXS5 := Lib.hid HX.out
          have HAS5 := Lib.hid HAS.out
          have HBS5 := Lib.hid HBU.out
          have HSS5 := Lib.hid HSU.out
          have HPE : Hid (P = .slice aP vn cP) := by show _ = _; rw [hP]; exact hPe
          clear hA5i hP hPe HR HX HAS HBU HSU hrl2 hc5 hj hjv
          go_wp2_with fail
          go_loopw [21] (fun i U => ∃ (j : Nat) (R : Value), j ≤ tn ∧ i = .int .i64 (j : Int) ∧ U.heap[w1.heap.size]? = some (.cells #[.int .i64 1, .string ⟨⟨nm⟩⟩, .int .i64 n0, .int .i64 n1, .int .i64 n2, .int .i64 n3, .int .i64 (vn : Int), R, P, .slice none 0 0] 59 (0, 0)) ∧ OwnT U V.heap.size 89 R j (r2.take (3 * j)) ∧ OwnT U V.heap.size 53 P vn (r.take (3 * vn)) ∧ Aside w1.heap.size V U ∧ Below w1.heap.size w1 U ∧ V.heap.size ≤ U.heap.size) (fun i _ => tn - (intOf i).toNat)
          case atStart => exact ⟨0, _, Nat.zero_le _, rfl, HXS5.out, OwnT.nil _ _ _, HP5.out, HAS5.out, HBS5.out, HSS5.out⟩
          case round =>
            obtain ⟨U, rfl⟩ : ∃ U, U = wr := ⟨_, rfl⟩
            obtain ⟨j, R, hj, rfl, hx, hR, hP, has, hbu, hsu⟩ := hrel
            have HX := Lib.hid hx
            have HP := Lib.hid hP
            have HR := Lib.hid hR
            have HAS := Lib.hid has
            have HBU := Lib.hid hbu
            have HSU := Lib.hid hsu
            clear hx hR has hbu hsu hP
            by_cases hjv : j < tn
            · have hlt : 3 * j + 2 < rl2 := by have := HRV2.out; omega
              obtain ⟨gb, ob, rfl, hcr⟩ := (HR5.out U HAS.out).at_ (by rw [← HRL2.out]; omega)
              have HCR := Lib.hid hcr
              clear hcr
              go_wp2_with fail
              refine rtri_any w1 V U r2 rl2 _ j vn gb ob nm n0 n1 n2 n3 R P (r.take (3 * vn)) HRL2 hlt (by have := HRV2.out; omega) HCR HX HR HP HAS HBU HSU HAV1 ?_
              intro v225 v226 v227 v228 v229 v230 v231 v232 v233 v234 v235 v236 v237 v238 v239 v240 v241 v242 v243 v244 v245 v246 v247 v248 v249 v250 v251 w6 hrel6
              have HL6 := Lib.hid hrel6
              clear hrel6
              dsimp only
              go_wp2_with fail
              go_roundw
              case rel =>
                obtain ⟨R', hrest⟩ := HL6.out
                exact ⟨j + 1, R', by omega, by go_num, hrest⟩
              case measure => simp [intOf]; omega
            · obtain rfl : tn = j := by omega
              obtain ⟨A6, hA6, hA6i⟩ := cut_intsI A5 rl2 c5 HC5.out.1 HC5.out.2 (3 * tn) (3 * tn + kn) (by omega) (by have := HRV2.out; omega) (3 * (tn : Int)) (3 * (tn : Int) + (kn : Int)) (by omega) (by omega)
              rw [show 3 * tn + kn - 3 * tn = kn from by omega] at hA6
              obtain ⟨c6, hc6⟩ : ∃ c6, c6 = c5 - 3 * tn := ⟨_, rfl⟩
              rw [← hc6] at hA6
              obtain ⟨KL, hKL⟩ : ∃ KL, KL = r2.drop (3 * tn) := ⟨_, rfl⟩
              have HKN : Hid (kn = KL.length) := by show _ = _; rw [hKL, List.length_drop, ← HRL2.out, HRV2.out]; omega
              have HKI : Hid (∀ U, Aside w1.heap.size V U → Ints U A6 KL) := fun U hU => by
                have h := hA6i U r2 HRL2.out.symm (HR5.out U hU)
                rw [← hKL, List.take_of_length_le (by rw [← HKN.out]; omega)] at h
                exact h
              have HKD : Hid ((bodyTold vn tn r).k = KL) := by show _ = _; rw [hKL]; exact HR2D.out
              obtain ⟨aT, cT, hTe, -, -, -⟩ := HR.out.ints
              have HTE := Lib.hid hTe
              have HSZ : Hid (w1.heap.size < U.heap.size) := (Array.getElem?_eq_some_iff.1 HX.out).1
              clear hA6i hc6 hKL hTe hj hjv
              go_wp2_with (at_builtin; refine stop ?_)
              have HBA := Lib.hid ((Below.refl U.heap.size U).alloc (Nat.le_refl _) (.cells #[] 3))
              have HO0 : Hid (OwnI (U.alloc (.cells #[] 3)) U.heap.size (.slice (some ⟨U.heap.size, 0, none⟩) 0 0) []) := World.ownsRow_lit (e := 3) (size := 1) U #[] 0 (Nat.le_refl _) (by decide) (by simp)
              have HAB : Hid (Aside w1.heap.size V (U.alloc (.cells #[] 3))) := fun k h1 h2 => (heap_alloc_old _ _ (Nat.lt_of_lt_of_le h2 HSU.out)).trans (HAS.out k h1 h2)
              refine unstop (wpList_appendI rfl (.tmp 252) (.tmp 260) rfl rfl HO0.out rfl HKN.out (HKI.out _ HAB.out) (by rw [← HKN.out, List.length_nil]; have := HRV.out; omega) HBA.out.size ?_)
              intro v7 w7 h7 hg7
              rw [List.nil_append] at h7
              have hb7 := HBA.out.grown hg7 HBA.out.size (fun k hk => (OwnI.lt HO0.out k hk).1)
              have HB7 := Lib.hid hb7
              have hx7 := (hb7.block _ HSZ.out).trans HX.out
              have HX7 := Lib.hid hx7
              obtain ⟨⟨-, -, -, -, -, -, -, -, -, z9⟩, -, -, -, -, -, -, -, -, -, y9⟩ := ten_cells hx7
              obtain ⟨aK, cK, rfl, -, -, -⟩ := h7.ints
              have HO7 := Lib.hid h7
              clear h7 hg7 hb7 hx7
              go_wp2_with fail
              (try simp only [Exit.inBlock, Exit.then])
              refine HKK.out _ _ _ _ _ _ _ _ _ _ _ _ _ _ _ _ _ _ _ _ _ _ _ _ _ _ _ _ _ _ _ _ _ _ _ _ _ _ _ _ _ _ _ _ _ _ _ _ _ _ _ _ _ _ _ _ _ _ _ _ _ _ _ _ _ _ _ _ _ _ _ _ _ _ _ _ _ _ _ _ _ _ _ _ _ _ _ _ _ _ _ _ _ _ _ _ _ _ _ _ _ _ _ _ _ _ _ _ _ _ _ _ _ _ _ _ _ _ _ _ _ _ _ _ _ _ _ _ _ _ _ _ _ _ _ _ _ _ _ _ _ _ _ _ _ _ _ _ _ _ _ _ _ _ _ ?_
              · skip
                have hX8 : (w7.setCell ⟨w1.heap.size, 9, none⟩ (.slice aK KL.length cK)).heap[w1.heap.size]? = _ := Lib.heap_setCell_same HX7.out _
                have hP8 : OwnT (w7.setCell ⟨w1.heap.size, 9, none⟩ (.slice aK KL.length cK)) V.heap.size 53 P vn (r.take (3 * vn)) := (OwnT.below HP.out HB7.out).set w1.heap.size 9 HAV1.out _
                have hT8 : OwnT (w7.setCell ⟨w1.heap.size, 9, none⟩ (.slice aK KL.length cK)) V.heap.size 89 R tn (r2.take (3 * tn)) := (OwnT.below HR.out HB7.out).set w1.heap.size 9 HAV1.out _
                have hK8 : OwnI (w7.setCell ⟨w1.heap.size, 9, none⟩ (.slice aK KL.length cK)) U.heap.size (.slice aK KL.length cK) KL := HO7.out.set w1.heap.size 9 HSZ.out _
                have hB8 : Below w1.heap.size w1 (w7.setCell ⟨w1.heap.size, 9, none⟩ (.slice aK KL.length cK)) := (HBU.out.trans (HB7.out.mono (Nat.le_of_lt HSZ.out))).setCell (p := ⟨w1.heap.size, 9, none⟩) (Nat.le_refl _) _
                rw [HPE.out] at hX8 hP8
                rw [HTE.out] at hX8 hT8
                have hAV := HAV1.out
                have hSZ := HSZ.out
                unfold RFin
                refine ⟨_, _, HCK.out, hX8, fun Y hY => ?_, ?_, by show nm.length ≤ _; have := HNL.out; omega, hB8⟩
                · have hlo : ∀ B, w1.heap.size ≤ B → ∀ k, B ≤ k → k < (w7.setCell ⟨w1.heap.size, 9, none⟩ (.slice aK KL.length cK)).heap.size → Y.heap[k]? = (w7.setCell ⟨w1.heap.size, 9, none⟩ (.slice aK KL.length cK)).heap[k]? := fun B hB k h1 h2 => hY k (by omega) h2
                  have hkl : (bodyTold vn tn r).k = KL := HKD.out
                  refine ⟨⟨⟨nm⟩⟩, n0, n1, n2, n3, aT, aP, aK, cT, cP, cK, rfl, HPAD.out, ?_, ⟨?_, ?_, ?_, ?_, ?_⟩, ?_, ?_, ?_, by show nm.length ≤ _; have := HNL.out; omega⟩
                  · unfold stepCells
                    rw [show (bodyTold vn tn r).k.length = KL.length from by rw [hkl]]
                    rfl
                  · rw [show (bodyTold vn tn r).t = r2.take (3 * tn) from HTD.out]; exact ownsRow_high hT8 (hlo _ (Nat.le_of_lt hAV))
                  · exact ownsRow_high hP8 (hlo _ (Nat.le_of_lt hAV))
                  · rw [hkl]; exact ownsRow_high hK8 (hlo _ (Nat.le_of_lt hSZ))
                  · rw [show (bodyTold vn tn r).t = r2.take (3 * tn) from HTD.out]
                    show _ = 3 * tn
                    rw [List.length_take, ← HRL2.out]; have := HRV2.out; omega
                  · show (r.take (3 * vn)).length = 3 * vn
                    rw [List.length_take, ← HRL.out]; have := HRV.out; omega
                  · show vn ≤ _; omega
                  · show tn ≤ _; omega
                  · rw [hkl, ← HKN.out]; have := HRV.out; have := HPR.out; omega
                · show 3 * vn + 3 * tn + (bodyTold vn tn r).k.length ≤ _
                  rw [HKD.out, ← HKN.out]; have := HRV.out; have := HPR.out; omega
    · have HRES : Hid (Script.readOf l = none) := by show _ = _; rw [HCAND.out, HCB.out, HBD2.out, if_neg hok]
      have hd : decide (v < 0) = true ∨ (decide (v < 0) = false ∧ decide (t < 0) = true) ∨ (decide (v < 0) = false ∧ decide (t < 0) = false ∧ decide (k < 0) = true) ∨ (decide (v < 0) = false ∧ decide (t < 0) = false ∧ decide (k < 0) = false ∧ decide (4096 < v) = true) ∨ (decide (v < 0) = false ∧ decide (t < 0) = false ∧ decide (k < 0) = false ∧ decide (4096 < v) = false ∧ decide (8192 < t) = true) ∨ (decide (v < 0) = false ∧ decide (t < 0) = false ∧ decide (k < 0) = false ∧ decide (4096 < v) = false ∧ decide (8192 < t) = false ∧ (rl : Int) ≠ 3 * v + 3 * t + k) := by
        simp only [decide_eq_true_iff, decide_eq_false_iff_not]
        omega
      clear hok
      rcases hd with p1 | ⟨p1, p2⟩ | ⟨p1, p2, p3⟩ | ⟨p1, p2, p3, p4⟩ | ⟨p1, p2, p3, p4, p5⟩ | ⟨p1, p2, p3, p4, p5, p6⟩
      case' inr.inr.inr.inr.inr =>
        have e7 : ((p : Int) != 3 + 3 * v + 3 * t + k) = true := by rw [bne_iff_ne]; omega
      all_goals
        clear hpr
        go_wp2_with fail
        go_quiet (fail)
        refine k_at (K := _) ?_
        intro V2 hV2
        have HB2 := Lib.hid (show Below w1.heap.size w1 V2 by rw [hV2]; exact below_drewL HBV.out _)
        clear hV2
        have hab := HAV.out _ (HB2.out)
        obtain ⟨⟨d0, d1, d2, d3, d4, d5, d6, d7, d8, d9⟩, f0, f1, f2, f3, f4, f5, f6, f7, f8, f9⟩ := ten_cells hab
        clear hab 
        go_wp2_with fail
        (try simp only [Exit.inBlock, Exit.then])
        refine bodyPost_ret (by simp [results, Tryd.results22, go_sem, d0, d1, d2, d3, d4, d5, d6, d7, d8, d9]; try rfl) rfl ?_
        refine ⟨?_, exit_below (HBB.out _ (HB2.out))⟩
        unfold RReadRes
        rw [HRES.out]
        exact ⟨0, ⟨#[]⟩, 0, 0, 0, 0, Script.emptyB, none, none, none, 0, 0, 0, rfl⟩


end Go.Proofs.YtjcffbhgjmaicaaDoor
