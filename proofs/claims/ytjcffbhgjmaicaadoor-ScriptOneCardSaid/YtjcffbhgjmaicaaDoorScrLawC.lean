/-
  Layer 55 (script): ScriptOne.
-/
import Derived.Test.YtjcffbhgjmaicaaDoorScrLawA
import Derived.Test.YtjcffbhgjmaicaaDoorScrLawP
import Derived.Laws.Concat
namespace Go.Proofs.YtjcffbhgjmaicaaDoor
open Go.RowKit
open Script

theorem stepsAt_one {w : World} {g o : Nat} {l : List Script.Step} (h : StepsAt w (some ⟨g, o, none⟩) l) {j : Nat} {x : Script.Step} (hx : l[j]? = some x) : StepsAt w (some ⟨g, o + j * 10, none⟩) [x] := by
  intro i s hi
  have hi0 : i = 0 := by have := (List.getElem?_eq_some_iff.1 hi).1; simp at this; omega
  subst hi0
  simp at hi
  subst hi
  obtain ⟨g', o', cs, e, hv, hc⟩ := h j x hx
  injection e with e
  injection e with e3 e4
  subst e3 e4
  refine ⟨g, o + j * 10, cs, rfl, hv, fun k u hk => ?_⟩
  have := hc k u hk
  rw [Nat.zero_mul, Nat.zero_add, Nat.add_assoc]
  exact this

theorem run_onestep (g o n c j : Nat) (hj : j < n) (hn : n ≤ c) (V : World) :
    (Instr.slice 23 (.slice (some ⟨g, o, none⟩) n c) (some (.int .i64 (j : Int))) (some (.int .i64 ((j : Int) + 1))) none).run Tryd.prog V = .ok (.slice (some ⟨g, o + j * 10, none⟩) 1 (c - j)) V := by
  obtain ⟨i0, hi0, hz0, hz1, hz2⟩ := info_parts infoStep
  have h1 : ¬ c = j := by omega
  have hadd : (⟨g, o, none⟩ : Addr).add (j * 10) = ⟨g, o + j * 10, none⟩ := addr_add _ _ _
  have ht : ((j : Int) + 1).toNat = j + 1 := by omega
  simp [Instr.slice, run_underlying Tryd.underlying23, Instr.sliceBounds, Instr.sliceBound, asIntOf, go_sem, hi0, hz1, sizeOf, typeInfo, ht, h1]
  intro hlt
  have := hlt (by omega)
  omega

/-- The text of those that are right. -/
def textR (l : List Script.Step) : List UInt8 := Script.text (l.filter fun x => Script.right x)

theorem rightAll_one (x : Script.Step) : rightAll [x] = Script.right x := by simp [rightAll]

theorem textR_snoc (l : List Script.Step) (x : Script.Step) : textR (l ++ [x]) = textR l ++ textOf [x] := by
  unfold textR textOf
  rw [List.filter_append, text_append, rightAll_one]
  congr 1
  cases h : Script.right x <;> simp [h, Script.text]

theorem textR_short {l : List Script.Step} (hw : ∀ x ∈ l, Script.Wf x) (hg : greatS l = false) (j : Nat) : (textR (l.take j)).length ≤ 737310 := by
  obtain ⟨g1, g2⟩ := greatS_no hg
  have hm : ∀ x ∈ (l.take j).filter (fun x => Script.right x), x ∈ l ∧ Script.right x = true := by
    intro x hx
    rw [List.mem_filter] at hx
    exact ⟨List.mem_of_mem_take hx.1, hx.2⟩
  have hl : ((l.take j).filter (fun x => Script.right x)).length ≤ l.length := Nat.le_trans (List.length_filter_le _ _) (by rw [List.length_take]; omega)
  have := text_short (l := (l.take j).filter (fun x => Script.right x)) (fun x hx => ⟨hw x (hm x hx).1, (hm x hx).2⟩) (by
    rw [List.any_eq_false] at g2 ⊢
    exact fun x hx => g2 x (hm x hx).1)
  unfold textR
  omega

set_option maxRecDepth 100000 in
set_option maxHeartbeats 4000000 in
theorem scriptOne_any (a : Option Addr) (n c : Nat) (l : List Script.Step) (w : World) (hn : l.length = n) (hnc : n ≤ c) (hcm : c ≤ maxLen) (h : StepsAt0 w a l) (hrd : Ready w) :
    Calls Tryd.prog 8 #[.slice a n c] w fun e w' => e = .returned (.bool true) ∧ Below w.heap.size w w' := by
  have hn2 : n ≤ maxLen := Nat.le_trans hnc hcm
  have HAW := Lib.hid (awake_any w hrd)
  have HRD := Lib.hid (fun (V : World) (hV : Below w.heap.size w V) => hrd.below hV)
  have HGR := Lib.hid (fun (V : World) (hV : Below w.heap.size w V) => great_any a n c l V hn hn2 (h.below hV))
  unfold maxLen at hn2
  by_cases hg : greatS l = true
  · simp only [hg, if_true] at HGR
    clear h hrd
    go_enter Tryd.func8, Tryd.ntmps8
    go_wp2_with fail
    refine HAW.out.mono ?_
    rintro e w1 ⟨rfl, hb1⟩
    have HB1 := Lib.hid hb1
    clear hb1
    go_wp2_with fail
    refine (HGR.out _ HB1.out).mono ?_
    rintro e w2 ⟨rfl, rfl⟩
    go_wp2_with fail
    go_ret
    exact ⟨rfl, HB1.out⟩
  · have hg' : greatS l = false := by simpa using hg
    have hst := stepsAt_of h hg'
    simp only [hg', Bool.false_eq_true, if_false] at HGR
    have hn3 : n ≤ 210 := by rw [← hn]; exact (greatS_no hg').1
    have HRA := Lib.hid (fun (V : World) (hV : Below w.heap.size w V) => rightAll_any a n c l V hn (by omega) (hst.below hV))
    have HWF := Lib.hid (stepsAt_wf hst)
    have HSH := Lib.hid (textR_short HWF.out hg')
    have HST := Lib.hid hst
    have HN := Lib.hid hn
    clear h hrd hg hg' hst hn
    obtain ⟨b0, hb0⟩ : ∃ b0 : Bool, b0 = decide (n ≤ 200) := ⟨_, rfl⟩
    have HB0 := Lib.hid hb0
    have hdl : decide ((n : Int) ≤ 200) = b0 := by rw [hb0]; exact decide_eq_decide.2 (by omega)
    clear hb0
    go_enter Tryd.func8, Tryd.ntmps8
    go_wp2_with fail
    refine HAW.out.mono ?_
    rintro e w1 ⟨rfl, hb1⟩
    have HB1 := Lib.hid hb1
    clear hb1
    go_wp2_with fail
    refine (HGR.out _ HB1.out).mono ?_
    rintro e w2 ⟨rfl, rfl⟩
    go_wp2_with fail
    go_loopw [3, 4, 5] (fun x t i wr => ∃ j : Nat, j ≤ n ∧ i = .int .i64 j ∧ t = .string ⟨(textR (l.take j)).toArray⟩ ∧ x = .bool (b0 && (l.take j).all Script.right) ∧ Below w.heap.size w wr) (fun _ _ i _ => n - (intOf i).toNat)
    case atStart => exact ⟨0, by omega, rfl, rfl, by simp, HB1.out⟩
    case round =>
      obtain ⟨j, hj, rfl, rfl, rfl, hb⟩ := hrel
      have HB := Lib.hid hb
      clear hb
      by_cases hjn : j < n
      · obtain ⟨u, hu⟩ : ∃ u, l[j]? = some u := ⟨l[j]'(by rw [HN.out]; exact hjn), List.getElem?_eq_getElem _⟩
        obtain ⟨g, o, cs, rfl, -, -⟩ := HST.out j u hu
        have H1 := Lib.hid (stepsAt_one HST.out hu)
        have hsl := fun V => run_onestep g o n c j hjn hnc V
        have HTX := Lib.hid (fun (V : World) (hV : Below w.heap.size w V) => text_any (some ⟨g, o + j * 10, none⟩) 1 (c - j) [u] V rfl (by omega) (H1.out.below hV) (HRD.out V hV))
        have HR1 := Lib.hid (fun (V : World) (hV : Below w.heap.size w V) => rightAll_any (some ⟨g, o + j * 10, none⟩) 1 (c - j) [u] V rfl (by omega) (H1.out.below hV))
        have hshj := HSH.out (j + 1)
        have hshj0 := HSH.out j
        have HTK := Lib.hid (take_snoc hu)
        rw [HTK.out, textR_snoc, List.length_append] at hshj
        have HALL : Hid (((l.take j) ++ [u]).all Script.right = ((l.take j).all Script.right && Script.right u)) := by show _ = _; simp
        have hadd : ∀ V : World, (Op.stringOp .add ⟨(textR (l.take j)).toArray⟩ ⟨(textOf [u]).toArray⟩).run Tryd.prog V = .ok (.string ⟨(textR (l.take (j + 1))).toArray⟩) V := by
          rw [HTK.out, textR_snoc]
          exact fun V => run_string_add_lists _ (textR (l.take j)) (textOf [u]) (by omega) (by omega)
        rw [rightAll_one] at HR1
        have HTE : Hid (textErr [u] = if Script.right u then 0 else 3) := by show _ = _; unfold textErr; rw [rightAll_one]
        have HX2 : Hid ((b0 && (l.take (j + 1)).all Script.right) = (b0 && (l.take j).all Script.right && Script.right u)) := by show _ = _; rw [HTK.out, HALL.out, Bool.and_assoc]
        obtain ⟨T1, hT1⟩ : ∃ T1, T1 = textR (l.take (j + 1)) := ⟨_, rfl⟩
        rw [← hT1] at hadd
        have HT1 := Lib.hid hT1
        clear hu hshj hshj0 hT1
        generalize textR (l.take j) = T0 at *
        generalize textOf [u] = TU at *
        generalize (b0 && (l.take j).all Script.right) = bb at *
        cases hru : Script.right u with
        | true =>
          rw [hru, if_pos rfl] at HTE
          rw [HTE.out] at HTX
          rw [hru] at HR1 HX2
          cases bb with
          | true =>
            go_wp2_with fail
            refine (HTX.out _ HB.out).mono ?_
            rintro e w3 ⟨rfl, hb3⟩
            have HB3 := Lib.hid (HB.out.trans (hb3.mono HB.out.size))
            clear hb3
            go_wp2_with fail
            refine (HR1.out _ HB3.out).mono ?_
            rintro e w4 ⟨rfl, hb4⟩
            have HB4 := Lib.hid (HB3.out.trans (hb4.mono HB3.out.size))
            clear hb4
            go_wp2_with fail
            go_roundw
            case rel => exact ⟨j + 1, by omega, by go_num, by rw [HT1.out], by rw [HX2.out]; rfl, HB4.out⟩
            case measure => simp [intOf]; omega
          | false =>
            go_wp2_with fail
            refine (HTX.out _ HB.out).mono ?_
            rintro e w3 ⟨rfl, hb3⟩
            have HB3 := Lib.hid (HB.out.trans (hb3.mono HB.out.size))
            clear hb3
            go_wp2_with fail
            refine (HR1.out _ HB3.out).mono ?_
            rintro e w4 ⟨rfl, hb4⟩
            have HB4 := Lib.hid (HB3.out.trans (hb4.mono HB3.out.size))
            clear hb4
            go_wp2_with fail
            go_roundw
            case rel => exact ⟨j + 1, by omega, by go_num, by rw [HT1.out], by rw [HX2.out]; rfl, HB4.out⟩
            case measure => simp [intOf]; omega
        | false =>
          rw [hru, if_neg (by decide)] at HTE
          rw [HTE.out] at HTX
          rw [hru] at HR1 HX2
          cases bb with
          | true =>
            go_wp2_with fail
            refine (HTX.out _ HB.out).mono ?_
            rintro e w3 ⟨rfl, hb3⟩
            have HB3 := Lib.hid (HB.out.trans (hb3.mono HB.out.size))
            clear hb3
            go_wp2_with fail
            refine (HR1.out _ HB3.out).mono ?_
            rintro e w4 ⟨rfl, hb4⟩
            have HB4 := Lib.hid (HB3.out.trans (hb4.mono HB3.out.size))
            clear hb4
            go_wp2_with fail
            go_roundw
            case rel => exact ⟨j + 1, by omega, by go_num, by rw [HT1.out], by rw [HX2.out]; rfl, HB4.out⟩
            case measure => simp [intOf]; omega
          | false =>
            go_wp2_with fail
            refine (HTX.out _ HB.out).mono ?_
            rintro e w3 ⟨rfl, hb3⟩
            have HB3 := Lib.hid (HB.out.trans (hb3.mono HB.out.size))
            clear hb3
            go_wp2_with fail
            refine (HR1.out _ HB3.out).mono ?_
            rintro e w4 ⟨rfl, hb4⟩
            have HB4 := Lib.hid (HB3.out.trans (hb4.mono HB3.out.size))
            clear hb4
            go_wp2_with fail
            go_roundw
            case rel => exact ⟨j + 1, by omega, by go_num, by rw [HT1.out], by rw [HX2.out]; rfl, HB4.out⟩
            case measure => simp [intOf]; omega
      · obtain rfl : n = j := by omega
        have htk : l.take n = l := List.take_of_length_le (by rw [HN.out]; exact Nat.le_refl _)
        have hra : (b0 && (l.take n).all Script.right) = rightAll l := by
          rw [htk, HB0.out]
          unfold rightAll
          rw [HN.out]
        have hshn := HSH.out n
        rw [hra]
        rw [htk] at hshn ⊢
        have HPA := Lib.hid (fun (V : World) (hV : Below w.heap.size w V) => parse_any ⟨(textR l).toArray⟩ V (by show (textR l).toArray.size ≤ _; rw [List.size_toArray]; omega) (HRD.out V hV))
        rw [show (ByteArray.mk (textR l).toArray).data.toList = textR l from rfl] at HPA
        unfold ParseRes at HPA
        have hm : ∀ x ∈ l.filter (fun x => Script.right x), Script.Wf x ∧ Script.right x = true := by
          intro x hx
          rw [List.mem_filter] at hx
          exact ⟨HWF.out x hx.1, hx.2⟩
        have hml : (l.filter (fun x => Script.right x)).length ≤ n := by rw [← HN.out]; exact List.length_filter_le _ _
        obtain ⟨m, hmm⟩ : ∃ m, m = (l.filter (fun x => Script.right x)).length := ⟨_, rfl⟩
        rw [← hmm] at hml
        by_cases hm200 : m ≤ 200
        · have hp : Script.parseOf (textR l) = .ok (l.filter (fun x => Script.right x)) := parse_text hm (by omega)
          simp only [hp] at HPA
          clear hp hm hmm htk hra hshn
          generalize rightAll l = ra at *
          go_wp2_with fail
          refine (HRA.out _ HB.out).mono ?_
          rintro e w3 ⟨rfl, hb3⟩
          have HB3 := Lib.hid (HB.out.trans (hb3.mono HB.out.size))
          clear hb3
          have hbb : (ra == ra) = true := beq_self_eq_true ra
          go_wp2_with fail
          refine (HPA.out _ HB3.out).mono ?_
          rintro e w4 ⟨⟨v4, rfl, ho4⟩, hb4⟩
          obtain ⟨a4, c4, rfl, g41, g42, hs4⟩ := ho4.steps
          have HB4 := Lib.hid (HB3.out.trans (hb4.mono HB3.out.size))
          clear hb4 ho4 hs4
          go_wp2_with fail
          go_ret
          exact ⟨rfl, HB4.out⟩
        · have hp : Script.parseOf (textR l) = .bad 201 7 := parse_many hm (by omega)
          simp only [hp] at HPA
          have i200 : (200 : Int) < (n : Int) := by omega
          have d200 : decide ((200 : Int) < (n : Int)) = true := decide_eq_true i200
          clear hp hm hmm htk hra hshn
          generalize rightAll l = ra at *
          go_wp2_with fail
          refine (HRA.out _ HB.out).mono ?_
          rintro e w3 ⟨rfl, hb3⟩
          have HB3 := Lib.hid (HB.out.trans (hb3.mono HB.out.size))
          clear hb3
          have hbb : (ra == ra) = true := beq_self_eq_true ra
          go_wp2_with fail
          refine (HPA.out _ HB3.out).mono ?_
          rintro e w4 ⟨rfl, hb4⟩
          have HB4 := Lib.hid (HB3.out.trans (hb4.mono HB3.out.size))
          clear hb4
          go_wp2_with fail
          go_ret
          exact ⟨rfl, HB4.out⟩

end Go.Proofs.YtjcffbhgjmaicaaDoor
