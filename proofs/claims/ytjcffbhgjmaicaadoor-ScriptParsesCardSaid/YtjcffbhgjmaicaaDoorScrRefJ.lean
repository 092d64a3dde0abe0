/-
  Layer 55 (script), the document's answer: Read, walked from where its numbers are read, over any frame. Printed by wip/gen_refe.py.
-/
import Derived.Test.YtjcffbhgjmaicaaDoorScrRefG
import Derived.Test.YtjcffbhgjmaicaaDoorScrRefI
import Derived.Test.YtjcffbhgjmaicaaDoorScrRefK
namespace Go.Proofs.YtjcffbhgjmaicaaDoor
open Go.RowKit
open Script
set_option linter.unusedVariables false

/-- What stands from region n on. -/
def findSeq (n : Nat) : Code → Option Code
  | .seq (.region m ops d) b => if m = n then some (.seq (.region m ops d) b) else findSeq n b
  | .seq a b => match findSeq n a with
    | some c => some c
    | none => findSeq n b
  | .block _ c => findSeq n c
  | .scope c => findSeq n c
  | .loop c => findSeq n c
  | .cond _ a b => match findSeq n a with
    | some c => some c
    | none => findSeq n b
  | _ => none
noncomputable def rreadRest : Code := ((Tryd.f22.body.bind (findSeq 16)).getD .skip)

set_option maxRecDepth 1000000 in
set_option maxHeartbeats 8000000 in
theorem rread_rest (l : List UInt8) (w w1 : World) (w0 : List UInt8) (ws : List (List UInt8)) (n b1 o1 cp1 : Nat) (K : Int) (mk f : Nat) (nm : List UInt8) (wm : World)
    (HCAND : Hid (readOf l = match candR (w0 :: ws) with | none => none | some x => if right x = true ∧ line x = l then some x else none))
    (hwn : n ≤ l.length + 1) (hl : l.length ≤ 2000) (HWB : Hid (∀ x ∈ w0 :: ws, x.length ≤ 2000)) (HN : Hid (n = (w0 :: ws).length)) (hn1 : 1 ≤ n) (g11 : n ≤ cp1) (g12 : cp1 ≤ maxLen)
    (HCS : Hid (∀ (j : Nat) (u : ByteArray), ((w0 :: ws).map fun x => (⟨⟨x⟩⟩ : ByteArray))[j]? = some u → w1.cell? ⟨b1, o1 + j, none⟩ = some (.string u)))
    (HLT : Hid (w.heap.size < w1.heap.size)) (HAV : Hid (∀ V : World, Below w1.heap.size w1 V → V.heap[w.heap.size]? = some (.cells #[.int .i64 0, .string ⟨#[]⟩, .int .i64 0, .int .i64 0, .int .i64 0, .int .i64 0, .int .i64 0, .slice none 0 0, .slice none 0 0, .slice none 0 0] 59 (0, 0)))) (HBB : Hid (∀ V : World, Below w1.heap.size w1 V → Below w.heap.size w V))
    (HM4 : Hid (mk ≤ 4)) (HMK : Hid (mk = manyOf K)) (hf1 : 1 ≤ f) (hfn : f ≤ n)
    (HXM : Hid (wm.heap[w1.heap.size]? = some (.cells (stepCells K ⟨⟨nm⟩⟩ 0 0 0 0 Script.emptyB none none none 0 0 0) 59 (0, 0)))) (HBM : Hid (Below w1.heap.size w1 wm)) (HNM : Hid (nm = [] ∨ nm ∈ w0 :: ws))
    (HCW : Hid (candR (w0 :: ws) = (if K = 0 then none else candNR K nm ((w0 :: ws).drop f))))
    {c1 c3 c6 c7 c8 c9 c12 c13 c14 c15 c16 c17 c18 c19 c20 c21 c22 c23 c24 c25 c26 c27 c28 c29 c30 c31 c32 c33 c34 c35 c36 c37 c38 c39 c40 c41 c42 c43 c44 c45 c46 c47 c48 c49 c50 c51 c52 c53 c54 c55 c56 c57 c58 c59 c60 c61 c62 c63 c64 c65 c66 c67 c68 c69 c70 c71 c72 c73 c74 c75 c76 c77 c78 c79 c80 c81 c82 c83 c84 c85 c86 c87 c88 c89 c90 c91 c92 c93 c94 c95 c96 c97 c98 c99 c100 c101 c102 c103 c104 c105 c106 c107 c108 c109 c110 c111 c112 c113 c114 c115 c116 c117 c118 c119 c120 c121 c122 c123 c124 c125 c126 c127 c128 c129 c130 c131 c132 c133 c134 c135 c136 c137 c138 c139 c140 c141 c142 c143 c144 c145 c146 c147 c148 c149 c150 c151 c152 c153 c154 c155 c156 c157 c158 c159 c160 c161 c162 c163 c164 c165 c166 c167 c168 c169 c170 c171 c172 c173 c174 c175 c176 c177 c178 c179 c180 c181 c182 c183 c184 c185 c186 c187 c188 c189 c190 c191 c192 c193 c194 c195 c196 c197 c198 c199 c200 c201 c202 c203 c204 c205 c206 c207 c208 c209 c210 c211 c212 c213 c214 c215 c216 c217 c218 c219 c220 c221 c222 c223 c224 c225 c226 c227 c228 c229 c230 c231 c232 c233 c234 c235 c236 c237 c238 c239 c240 c241 c242 c243 c244 c245 c246 c247 c248 c249 c250 c251 c252 c253 c254 c255 c256 c257 c258 c259 c260 c261 c262 c263 c264 c265 c266 c267 c268 c269 c270 c271 c272 : Value} :
    Code.wp Tryd.prog rreadRest (bodyPost Tryd.prog Tryd.f22 fun e w' => RReadRes w w' (readOf l) e ∧ Below w.heap.size w w') ⟨#[.string ⟨⟨l⟩⟩, c1, .pointer (some ⟨w.heap.size, 0, none⟩), c3, .slice (some ⟨b1, o1, none⟩) n cp1, .pointer (some ⟨w1.heap.size, 0, none⟩), c6, c7, c8, c9, .int .i64 (mk : Int), .int .i64 (f : Int), c12, c13, c14, c15, c16, c17, c18, c19, c20, c21, c22, c23, c24, c25, c26, c27, c28, c29, c30, c31, c32, c33, c34, c35, c36, c37, c38, c39, c40, c41, c42, c43, c44, c45, c46, c47, c48, c49, c50, c51, c52, c53, c54, c55, c56, c57, c58, c59, c60, c61, c62, c63, c64, c65, c66, c67, c68, c69, c70, c71, c72, c73, c74, c75, c76, c77, c78, c79, c80, c81, c82, c83, c84, c85, c86, c87, c88, c89, c90, c91, c92, c93, c94, c95, c96, c97, c98, c99, c100, c101, c102, c103, c104, c105, c106, c107, c108, c109, c110, c111, c112, c113, c114, c115, c116, c117, c118, c119, c120, c121, c122, c123, c124, c125, c126, c127, c128, c129, c130, c131, c132, c133, c134, c135, c136, c137, c138, c139, c140, c141, c142, c143, c144, c145, c146, c147, c148, c149, c150, c151, c152, c153, c154, c155, c156, c157, c158, c159, c160, c161, c162, c163, c164, c165, c166, c167, c168, c169, c170, c171, c172, c173, c174, c175, c176, c177, c178, c179, c180, c181, c182, c183, c184, c185, c186, c187, c188, c189, c190, c191, c192, c193, c194, c195, c196, c197, c198, c199, c200, c201, c202, c203, c204, c205, c206, c207, c208, c209, c210, c211, c212, c213, c214, c215, c216, c217, c218, c219, c220, c221, c222, c223, c224, c225, c226, c227, c228, c229, c230, c231, c232, c233, c234, c235, c236, c237, c238, c239, c240, c241, c242, c243, c244, c245, c246, c247, c248, c249, c250, c251, c252, c253, c254, c255, c256, c257, c258, c259, c260, c261, c262, c263, c264, c265, c266, c267, c268, c269, c270, c271, c272], []⟩ wm := by
  conv => arg 2; whnf
  go_wp2_with fail
  go_loopw [12, 13] (fun v i wr => RNum wm (w0 :: ws) f v i wr) (fun _ i _ => n - (intOf i).toNat)
  case atStart => exact ⟨f, [], Nat.le_refl _, by rw [← HN.out]; exact hfn, rfl, by rw [Nat.sub_self, List.take_zero]; rfl, OwnI.none_, Below.refl _ _⟩
  case round =>
    unfold RNum at hrel
    obtain ⟨j, L, hfj, hj, rfl, hnL, hown, hbl⟩ := hrel
    rw [← HN.out] at hj
    have HNL := Lib.hid hnL
    have HOW := Lib.hid hown
    have HBL := Lib.hid hbl
    have HB3 := Lib.hid (HBM.out.trans (hbl.mono HBM.out.size))
    clear hnL hown hbl
    by_cases hjn : j < n
    · obtain ⟨b, hb⟩ : ∃ b, (w0 :: ws)[j]? = some b := ⟨(w0 :: ws)[j]'(by rw [← HN.out]; exact hjn), List.getElem?_eq_getElem _⟩
      have HBJ := Lib.hid hb
      have l0 := HCS.out j ⟨⟨b⟩⟩ (by rw [List.getElem?_map, hb]; rfl)
      have l1 := (HB3.out.cell (lt_of_cell l0)).trans l0
      have HNU := Lib.hid (number_any b wr (by have := HWB.out b (List.mem_of_getElem? hb); omega))
      clear l0 hb
      go_wp2_with fail
      refine HNU.out.mono ?_
      rintro e w3 ⟨hres, hw3⟩
      obtain rfl : wr = w3 := hw3.symm
      clear HNU hw3
      cases hnw : numR b with
      | none =>
        rw [hnw] at hres
        obtain ⟨x, rfl⟩ := hres
        have HRES : Hid (Script.readOf l = none) := by
          show _ = _
          rw [HCAND.out, HCW.out]
          by_cases hK : K = 0
          · rw [if_pos hK]
          · rw [if_neg hK]
            unfold candNR
            rw [numsR_none (List.mem_iff_getElem?.2 ⟨j - f, by rw [List.getElem?_drop, show f + (j - f) = j from by omega]; exact HBJ.out⟩) hnw]
        clear hnw
        have hab := HAV.out _ (HB3.out)
        obtain ⟨⟨d0, d1, d2, d3, d4, d5, d6, d7, d8, d9⟩, f0, f1, f2, f3, f4, f5, f6, f7, f8, f9⟩ := ten_cells hab
        clear hab l1
        go_wp2_with fail
        (try simp only [Exit.inBlock, Exit.then])
        refine bodyPost_ret (by simp [results, Tryd.results22, go_sem, d0, d1, d2, d3, d4, d5, d6, d7, d8, d9]; try rfl) rfl ?_
        refine ⟨?_, exit_below (HBB.out _ (HB3.out))⟩
        unfold RReadRes
        rw [HRES.out]
        exact ⟨0, ⟨#[]⟩, 0, 0, 0, 0, Script.emptyB, none, none, none, 0, 0, 0, rfl⟩
            | some x =>
        rw [hnw] at hres
        obtain rfl := hres
        have HNW := Lib.hid hnw
        clear hnw
        go_wp2_with (at_builtin; refine stop ?_)
        have hal := (Below.refl wr.heap.size wr).alloc (Nat.le_refl _) (.cells #[.int .i64 x] 3)
        have ho4 := HOW.out.later hal
        have hb4 := HBL.out.alloc HBL.out.size (.cells #[.int .i64 x] 3)
        refine unstop (wpList_appendI rfl (.tmp 76) (.tmp 78) rfl rfl ho4 rfl (by rfl) (ints_new1 wr _ x) ?_ hb4.size ?_)
        · have h1 := numsR_length HNL.out
          rw [List.length_take] at h1
          simp only [List.length_cons, List.length_nil]
          omega
        intro v5 w5 h5 hg5
        have hb5 := below_appendI hb4 ho4 (Nat.le_refl _) hg5
        have H5 := Lib.hid h5
        have HB5 := Lib.hid hb5
        clear hal ho4 hb4 hg5 h5 hb5
        go_wp2_with fail
        go_roundw
        case rel =>
          unfold RNum
          refine ⟨j + 1, L ++ [x], by omega, by rw [← HN.out]; omega, by go_num, ?_, H5.out, HB5.out⟩
          have hd : ((w0 :: ws).drop f)[j - f]? = some b := by rw [List.getElem?_drop, show f + (j - f) = j from by omega]; exact HBJ.out
          rw [show j + 1 - f = (j - f) + 1 from by omega, take_snoc hd, numsR_append, HNL.out]
          simp only [numsR, HNW.out]
        case measure => simp [intOf]; omega
    · obtain rfl : n = j := by omega
      rw [List.take_of_length_le (by rw [List.length_drop, ← HN.out]; exact Nat.le_refl _)] at HNL
      have hql : L.length ≤ n := by
        have h1 := numsR_length HNL.out
        rw [List.length_drop, ← HN.out] at h1
        omega
      have HLB := Lib.hid (numsR_bounds HNL.out)
      have HCN : Hid (candR (w0 :: ws) = (if K = 0 then none else if L.length < mk then none
        else if K = 1 then (match bodyD (L.drop mk) with | none => none | some b => some { kind := K, name := nm, n := Script.pad (L.take mk), body := b })
        else if mk < L.length then none
        else some { kind := K, name := nm, n := Script.pad (L.take mk), body := Script.emptyB })) := by
        show _ = _
        rw [HCW.out, HMK.out]
        unfold candNR
        rw [HNL.out]
        rfl
      obtain ⟨wn, rfl⟩ : ∃ wn, wn = wr := ⟨_, rfl⟩
      obtain ⟨a2, c2, rfl, hle, hcm1, hin⟩ := HOW.out.ints
      have HHI := Lib.hid (fun (V : World) (hV : ∀ k, wm.heap.size ≤ k → k < wn.heap.size → V.heap[k]? = wn.heap[k]?) => ownsRow_high (show wn.ownsRow wm.heap.size 3 1 (.slice a2 L.length c2) L.length (L.map intCell) from HOW.out) hV)
      have HLW : Hid (w1.heap.size < wm.heap.size) := (Array.getElem?_eq_some_iff.1 HXM.out).1
      have HLR : Hid (w1.heap.size < wn.heap.size) := Nat.lt_of_lt_of_le HLW.out HBL.out.size
      have HXR := Lib.hid ((HBL.out.block _ HLW.out).trans HXM.out)
      have HCM1 := Lib.hid hcm1
      obtain ⟨q, hq⟩ : ∃ q, q = L.length := ⟨_, rfl⟩
      have HQ := Lib.hid hq
      rw [← hq] at HCN hle hql ⊢
      unfold maxLen at hcm1
      have hx := HXR.out
      unfold stepCells at hx
      obtain ⟨⟨z0, -⟩, -⟩ := ten_cells hx
      clear hin hq hx HCW HXM HBM HNL HOW hj hjn hfj
      go_upto_region 24 with fail
      refine rread_many w1.heap.size K mk q a2 c2 wn z0 (by omega) (by have := HM4.out; omega) ?_
      intro bad v80 v81 v82 v83 v84 v85 v86 v87 v88 v89 v90 v91 v92 v93 v94 v95 v96 v97 v98 hbd
      have HBD := Lib.hid hbd
      clear hbd
      dsimp only
      cases hbad : bad with
      | true =>
        have HRES : Hid (Script.readOf l = none) := by
          show _ = _
          rw [HCAND.out, HCN.out]
          have hb := HBD.out
          rw [hbad] at hb
          by_cases hK0 : K = 0
          · rw [if_pos hK0]
          · rw [if_neg hK0]
            by_cases h1 : q < mk
            · rw [if_pos h1]
            · by_cases hK1 : K = 1
              · rw [decide_eq_false hK0, decide_eq_false h1, hK1] at hb; simp at hb
              · by_cases h2 : q = mk
                · rw [decide_eq_false hK0, decide_eq_false h1, h2] at hb; simp at hb
                · rw [if_neg h1, if_neg hK1, if_pos (by omega)]
        clear hbad z0
        have hab := HAV.out _ (HB3.out)
        obtain ⟨⟨d0, d1, d2, d3, d4, d5, d6, d7, d8, d9⟩, f0, f1, f2, f3, f4, f5, f6, f7, f8, f9⟩ := ten_cells hab
        clear hab 
        go_wp2_with fail
        (try simp only [Exit.inBlock, Exit.then])
        refine bodyPost_ret (by simp [results, Tryd.results22, go_sem, d0, d1, d2, d3, d4, d5, d6, d7, d8, d9]; try rfl) rfl ?_
        refine ⟨?_, exit_below (HBB.out _ (HB3.out))⟩
        unfold RReadRes
        rw [HRES.out]
        exact ⟨0, ⟨#[]⟩, 0, 0, 0, 0, Script.emptyB, none, none, none, 0, 0, 0, rfl⟩
              | false =>
        have hb := HBD.out
        rw [hbad] at hb
        simp only [Bool.false_eq, Bool.or_eq_false_iff, Bool.and_eq_false_iff, decide_eq_false_iff_not] at hb
        obtain ⟨hK0, hmq', hkq⟩ := hb
        have hmq : mk ≤ q := by omega
        have HCM : Hid (candR (w0 :: ws) = (if K = 1 then (match bodyD (L.drop mk) with | none => none | some b => some { kind := K, name := nm, n := Script.pad (L.take mk), body := b })
            else some { kind := K, name := nm, n := Script.pad (L.take mk), body := Script.emptyB })) := by
          show _ = _
          rw [HCN.out, if_neg hK0, if_neg hmq']
          by_cases hK1 : K = 1
          · rw [if_pos hK1, if_pos hK1]
          · rw [if_neg hK1, if_neg hK1, if_neg (by rcases hkq with h | h <;> omega)]
        have hm4 := HM4.out
        clear hbad hmq' hkq HCN HBD hK0 z0
        go_wp2_with fail
        go_loopw [16] (fun i V => ∃ (j : Nat) (n0 n1 n2 n3 : Int), j ≤ mk ∧ i = .int .i64 (j : Int) ∧ Script.pad (L.take j) = [n0, n1, n2, n3] ∧ V.heap[w1.heap.size]? = some (.cells (stepCells K ⟨⟨nm⟩⟩ n0 n1 n2 n3 Script.emptyB none none none 0 0 0) 59 (0, 0)) ∧ Below w1.heap.size w1 V ∧ Aside w1.heap.size wn V ∧ wn.heap.size ≤ V.heap.size) (fun i _ => mk - (intOf i).toNat)
        case atStart => exact ⟨0, 0, 0, 0, 0, Nat.zero_le _, rfl, by rw [List.take_zero]; rfl, HXR.out, HB3.out, fun _ _ _ => rfl, Nat.le_refl _⟩
        case round =>
          obtain ⟨V, rfl⟩ : ∃ V, V = wr := ⟨_, rfl⟩
          obtain ⟨j, n0, n1, n2, n3, hj, rfl, hpad, hx, hbv, has, hsv⟩ := hrel
          have HPAD := Lib.hid hpad
          have HX := Lib.hid hx
          have HBV := Lib.hid hbv
          have HAS := Lib.hid has
          have HSV := Lib.hid hsv
          clear hpad hx hbv has hsv
          by_cases hjm : j < mk
          · obtain ⟨y, hy⟩ : ∃ y, L[j]? = some y := ⟨L[j]'(by rw [← HQ.out]; omega), List.getElem?_eq_getElem _⟩
            have hi := HHI.out V (fun k h1 h2 => HAS.out k (by have := HLW.out; omega) h2)
            obtain ⟨b2, o2, rfl, hc2⟩ := hi.at_ (by rw [← HQ.out]; omega)
            have c2 := hc2 j y hy
            have hj4 : j < 4 := by omega
            have hfz := Lib.frozen_of_heap HX.out (2 + j)
            obtain ⟨u, hu⟩ : ∃ u, V.cell? ⟨w1.heap.size, 2 + j, none⟩ = some u := by
              rw [Lib.cell_of_heap HX.out]
              rcases (show j = 0 ∨ j = 1 ∨ j = 2 ∨ j = 3 by omega) with rfl | rfl | rfl | rfl <;> exact ⟨_, rfl⟩
            have HPS := Lib.hid (pad_step hy hj4 HPAD.out)
            clear hi hc2 hy
            go_wp2_with fail
            go_roundw
            case rel =>
              obtain ⟨m0, m1, m2, m3, hp, hcase⟩ := HPS.out
              refine ⟨j + 1, m0, m1, m2, m3, by omega, by go_num, hp, ?_, HBV.out.setCell (p := ⟨w1.heap.size, 2 + j, none⟩) (Nat.le_refl _) _, fun k h1 h2 => (Below.heap_setCell _ _ _ _ (by show k ≠ w1.heap.size; omega)).trans (HAS.out k h1 h2), by rw [World.size_setCell]; exact HSV.out⟩
              rcases hcase with ⟨rfl, rfl, rfl, rfl, rfl⟩ | ⟨rfl, rfl, rfl, rfl, rfl⟩ | ⟨rfl, rfl, rfl, rfl, rfl⟩ | ⟨rfl, rfl, rfl, rfl, rfl⟩ <;> exact (Lib.heap_setCell_same HX.out _).trans rfl
            case measure => simp [intOf]; omega
          · obtain rfl : mk = j := by omega
            have hn0 : nm.length ≤ 2000 := by
              rcases HNM.out with h | h
              · rw [h]; simp
              · exact HWB.out nm h
            have HNL := Lib.hid hn0
            have hx := HX.out
            unfold stepCells at hx
            obtain ⟨⟨z0, -⟩, -⟩ := ten_cells hx
            clear hx hn0 hj
            go_upto_if 115 with fail
            go_cut [] (fun wx => RFin w1 (candR (w0 :: ws)) 2001 wx)
            case first =>
              by_cases hK1 : K = 1
              · subst hK1
                have hm1 : mk = 1 := HMK.out.trans (by decide)
                subst hm1
                have HCB := Lib.hid HCM.out
                rw [if_pos rfl] at HCB
                have HR2 : Hid (∀ U, Aside w1.heap.size wn U → Ints U a2 L) := fun U hU => HHI.out U (fun k h1 h2 => hU k (by have := HLW.out; omega) h2)
                refine rread_put l w w1 (candR (w0 :: ws)) nm L q a2 c2 n0 n1 n2 n3 wn V HCAND HCB HR2 hle HCM1 hmq (by omega) HQ HLB HAV HBB HX HBV HAS HSV HPAD HNL ?_
                intros
                rename_i w' hfin
                dsimp only
                go_wp2_with fail
                go_meet
                case rel => exact hfin
              · have hk1 : (K == 1) = false := by rw [beq_eq_false_iff_ne]; exact hK1
                go_wp2_with fail
                go_meet
                case rel =>
                  unfold RFin
                  refine ⟨_, _, by rw [HCM.out, if_neg hK1], HX.out, fun U hU => ?_, by show 0 ≤ _; omega, by show nm.length ≤ _; have := HNL.out; omega, HBV.out⟩
                  exact ⟨⟨⟨nm⟩⟩, n0, n1, n2, n3, none, none, none, 0, 0, 0, rfl, HPAD.out, rfl, ⟨ints_nil _ _, ints_nil _ _, ints_nil _ _, rfl, rfl⟩, by show (0 : Nat) ≤ 100000; decide, by show (0 : Nat) ≤ 100000; decide, by show (0 : Nat) ≤ 1000000; decide, by show nm.length ≤ _; have := HNL.out; omega⟩
            case rest =>
              unfold RFin at hcut
              obtain ⟨x, cs, hcx, hxh, hxs, hxq, hxn, hxb⟩ := hcut
              have HXS := Lib.hid hxs
              have HXH := Lib.hid hxh
              have HXB := Lib.hid hxb
              have hwf : Wf x := (hxs wc fun _ _ _ => rfl).wf
              have HLL : Hid (Script.right x = true → (Script.line x).length ≤ 1000000) := fun h => Nat.le_trans (line_le h hwf hxq hxn) (by omega)
              have HRES : Hid (Script.readOf l = if Script.right x = true ∧ Script.line x = l then some x else none) := by show _ = _; have h := HCAND.out; rw [hcx] at h; exact h
              have HWC := Lib.hid (HBB.out _ HXB.out)
              have HAVC := Lib.hid (fun (V : World) (hV : Below wc.heap.size wc V) => HAV.out V (HXB.out.trans (hV.mono HXB.out.size)))
              clear hcx hxh hxs hxb hxq hxn hwf HCAND
              go_wp2_with fail
              rename_i hret
              refine rread_end w w1 wc l x cs HXS HXH HAVC HWC HLT HLL ?_
              intro b v264 v265 v266 v267 v268 v269 v270 v271 v272 w' hend
              obtain ⟨hb, hsr, hhp⟩ := hend
              have HSR := Lib.hid hsr
              have HB := Lib.hid hb
              obtain ⟨nm5, m0, m1, m2, m3, ta, pa, ka, tc, pc, kc, hx1, hx2, rfl, hx3⟩ := HXS.out w' hsr.2.1
              have HST : Hid (∀ V : World, (∀ k, w.heap.size ≤ k → k < w'.heap.size → V.heap[k]? = w'.heap[k]?) → StepV V x (stepCells x.kind nm5 m0 m1 m2 m3 x.body ta pa ka tc pc kc)) := fun V hV => HXS.out V (fun k h1 h2 => (hV k (by have := HLT.out; omega) (Nat.lt_of_lt_of_le h2 HSR.out.2.2)).trans (HSR.out.2.1 k h1 h2))
              unfold stepCells at hhp HST
              obtain ⟨⟨d0, d1, d2, d3, d4, d5, d6, d7, d8, d9⟩, -⟩ := ten_cells hhp
              clear hb hsr hhp hx1 hx2 hx3
              refine hret _ _ (wp_ret ?_)
              refine bodyPost_ret (by simp [results, Tryd.results22, go_sem, d0, d1, d2, d3, d4, d5, d6, d7, d8, d9]; try rfl) rfl ?_
              refine ⟨?_, HSR.out.1⟩
              unfold RReadRes
              rw [show Script.readOf l = _ from HRES.out]
              by_cases h : Script.right x = true ∧ Script.line x = l
              · rw [if_pos h]
                refine ⟨_, ?_, HST.out⟩
                rw [HB.out, h.1, decide_eq_true h.2]; rfl
              · rw [if_neg h]
                refine ⟨x.kind, nm5, m0, m1, m2, m3, x.body, ta, pa, ka, tc, pc, kc, ?_⟩
                rw [HB.out]
                have hf : (Script.right x && decide (Script.line x = l)) = false := by
                  cases h1 : Script.right x with
                  | false => rfl
                  | true =>
                    have : ¬ Script.line x = l := fun h2 => h ⟨h1, h2⟩
                    rw [decide_eq_false this]; rfl
                rw [hf]; rfl

end Go.Proofs.YtjcffbhgjmaicaaDoor
