/-
  Layer 55 (script): what all law walks want: lengths, right steps; ScriptAgain.
-/
import Derived.Test.YtjcffbhgjmaicaaDoorScrAwake
import Derived.Test.YtjcffbhgjmaicaaDoorScrOpen
import Derived.Test.YtjcffbhgjmaicaaDoorScrText
namespace Go.Proofs.YtjcffbhgjmaicaaDoor
open Go.RowKit
open Script

theorem line_short {s : Script.Step} (hr : Script.right s = true) (hw : Script.Wf s) (hg : stepGreat s = false) : (Script.line s).length ≤ 3510 := by
  unfold stepGreat at hg
  simp only [Bool.or_eq_false_iff, decide_eq_false_iff_not] at hg
  obtain ⟨w, m, hs, h1, h2, h3⟩ := right_shape hr
  have h5 := behind_length (nums_small hr m)
  have h6 := words_short _ (shape_mem hs).1
  have h4 : (Script.nums s m).length ≤ 287 := by
    unfold Script.nums
    rw [List.length_append, List.length_take]
    have e1 := hw.n
    have e2 := hw.p
    have e3 := hw.t
    by_cases hk : s.kind = 1
    · rw [if_pos hk]
      unfold Script.numbers
      simp only [List.length_cons, List.length_append]
      omega
    · rw [if_neg hk, List.length_nil]
      omega
  rw [line_behind hs, List.length_append, List.length_append]
  simp only at h6
  by_cases hk : s.kind = 1
  · rw [if_pos hk, List.length_cons]
    omega
  · rw [if_neg hk, List.length_nil]
    omega

theorem text_short : ∀ {l : List Script.Step}, (∀ x ∈ l, Script.Wf x ∧ Script.right x = true) → l.any stepGreat = false → (Script.text l).length ≤ 3511 * l.length
  | [], _, _ => by simp [Script.text]
  | x :: l, h, hg => by
    rw [List.any_cons, Bool.or_eq_false_iff] at hg
    have e : Script.text (x :: l) = Script.line x ++ 10 :: Script.text l := by simp [Script.text]
    have h1 := line_short (h x (by simp)).2 (h x (by simp)).1 hg.1
    have h2 := text_short (fun y hy => h y (by simp [hy])) hg.2
    rw [e, List.length_append, List.length_cons, List.length_cons]
    omega

theorem greatS_no {l : List Script.Step} (h : greatS l = false) : l.length ≤ 210 ∧ l.any stepGreat = false := by
  unfold greatS at h
  rw [Bool.or_eq_false_iff, decide_eq_false_iff_not] at h
  exact ⟨by omega, h.2⟩

theorem stepsAt_wf {w : World} {a : Option Addr} {l : List Script.Step} (h : StepsAt w a l) : ∀ x ∈ l, Script.Wf x := by
  intro x hx
  obtain ⟨i, hi⟩ := List.getElem?_of_mem hx
  obtain ⟨g, o, cs, -, hv, -⟩ := h i x hi
  exact hv.wf

theorem rightAll_yes {l : List Script.Step} (h : rightAll l = true) : l.length ≤ 200 ∧ ∀ x ∈ l, Script.right x = true := by
  unfold rightAll at h
  rw [Bool.and_eq_true, decide_eq_true_iff, List.all_eq_true] at h
  exact h

/-- All of it, for steps that are right. -/
theorem right_text {w : World} {a : Option Addr} {l : List Script.Step} (hs : StepsAt w a l) (hg : greatS l = false) (hr : rightAll l = true) :
    textOf l = Script.text l ∧ textErr l = 0 ∧ (Script.text l).length ≤ 1000000 ∧ Script.parseOf (Script.text l) = .ok l ∧ l.length ≤ 200 := by
  obtain ⟨h1, h2⟩ := rightAll_yes hr
  obtain ⟨g1, g2⟩ := greatS_no hg
  have h3 : ∀ x ∈ l, Script.Wf x ∧ Script.right x = true := fun x hx => ⟨stepsAt_wf hs x hx, h2 x hx⟩
  refine ⟨by unfold textOf; rw [hr]; rfl, by unfold textErr; rw [hr]; rfl, ?_, parse_text h3 h1, h1⟩
  have := text_short h3 g2
  omega

set_option maxRecDepth 100000 in
set_option maxHeartbeats 4000000 in
theorem scriptAgain_any (a : Option Addr) (n c : Nat) (l : List Script.Step) (w : World) (hn : l.length = n) (hn2 : n ≤ maxLen) (h : StepsAt0 w a l) (hrd : Ready w) :
    Calls Tryd.prog 5 #[.slice a n c] w fun e w' => e = .returned (.bool true) ∧ Below w.heap.size w w' := by
  have HAW := Lib.hid (awake_any w hrd)
  have HRD := Lib.hid (fun (V : World) (hV : Below w.heap.size w V) => hrd.below hV)
  have HGR := Lib.hid (fun (V : World) (hV : Below w.heap.size w V) => great_any a n c l V hn hn2 (h.below hV))
  unfold maxLen at hn2
  by_cases hg : greatS l = true
  · simp only [hg, if_true] at HGR
    clear h hrd
    go_enter Tryd.func5, Tryd.ntmps5
    go_wp2_with fail
    refine HAW.out.mono ?_
    rintro e w1 ⟨rfl, hb1⟩
    have HB1 := Lib.hid hb1
    clear hb1
    go_wp2_with fail
    refine (HGR.out _ HB1.out).mono ?_
    rintro e w2 ⟨rfl, rfl⟩
    go_wp2_with fail
    go_ret
    exact ⟨rfl, HB1.out⟩
  · have hg' : greatS l = false := by simpa using hg
    have hst := stepsAt_of h hg'
    simp only [hg', Bool.false_eq_true, if_false] at HGR
    have hn3 : n ≤ 210 := by rw [← hn]; exact (greatS_no hg').1
    have HTX := Lib.hid (fun (V : World) (hV : Below w.heap.size w V) => text_any a n c l V hn (by omega) (hst.below hV) (HRD.out V hV))
    have HRA := Lib.hid (fun (V : World) (hV : Below w.heap.size w V) => rightAll_any a n c l V hn (by omega) (hst.below hV))
    have HPL := Lib.hid (fun (V : World) (hV : Below w.heap.size w V) => plain_any a n c l V hn (by omega) (hst.below hV))
    cases hra : rightAll l with
    | false =>
      have e1 : textOf l = [] := by unfold textOf; rw [hra]; rfl
      have e2 : textErr l = 3 := by unfold textErr; rw [hra]; rfl
      rw [e1, e2] at HTX
      rw [hra] at HRA
      clear h hrd hst hg hg'
      go_enter Tryd.func5, Tryd.ntmps5
      go_wp2_with fail
      refine HAW.out.mono ?_
      rintro e w1 ⟨rfl, hb1⟩
      have HB1 := Lib.hid hb1
      clear hb1
      go_wp2_with fail
      refine (HGR.out _ HB1.out).mono ?_
      rintro e w2 ⟨rfl, rfl⟩
      go_wp2_with fail
      refine (HTX.out _ HB1.out).mono ?_
      rintro e w3 ⟨rfl, hb3⟩
      have HB3 := Lib.hid (HB1.out.trans (hb3.mono HB1.out.size))
      clear hb3
      go_wp2_with fail
      refine (HRA.out _ HB3.out).mono ?_
      rintro e w4 ⟨rfl, hb4⟩
      have HB4 := Lib.hid (HB3.out.trans (hb4.mono HB3.out.size))
      clear hb4
      go_wp2_with fail
      go_ret
      exact ⟨rfl, HB4.out⟩
    | true =>
      obtain ⟨e1, e2, e3, e4, e5⟩ := right_text hst hg' hra
      rw [e1, e2] at HTX
      generalize Script.text l = T at *
      have HPA := Lib.hid (fun (V : World) (hV : Below w.heap.size w V) => parse_any ⟨T.toArray⟩ V (by show T.toArray.size ≤ _; rw [List.size_toArray]; exact e3) (HRD.out V hV))
      rw [show (ByteArray.mk T.toArray).data.toList = T from rfl, e4] at HPA
      unfold ParseRes at HPA
      have HN := Lib.hid hn
      have HRR := Lib.hid (fun (V : World) (a' : Option Addr) (c' : Nat) (hV : StepsAt V a' l) => rightAll_any a' n c' l V hn (by omega) hV)
      have HPP := Lib.hid (fun (V : World) (a' : Option Addr) (c' : Nat) (hV : StepsAt V a' l) => plain_any a' n c' l V hn (by omega) hV)
      have HSA := Lib.hid (fun (V : World) (a' b' : Option Addr) (ca cb : Nat) (hA : StepsAt V a' l) (hB : StepsAt V b' l) => same_any a' b' n ca cb l V hn (by omega) hA hB)
      rw [hra] at HRR
      clear h hrd hst hg hg' e1 e2 e3 e4 HRA
      go_enter Tryd.func5, Tryd.ntmps5
      go_wp2_with fail
      refine HAW.out.mono ?_
      rintro e w1 ⟨rfl, hb1⟩
      have HB1 := Lib.hid hb1
      clear hb1
      go_wp2_with fail
      refine (HGR.out _ HB1.out).mono ?_
      rintro e w2 ⟨rfl, rfl⟩
      go_wp2_with fail
      refine (HTX.out _ HB1.out).mono ?_
      rintro e w3 ⟨rfl, hb3⟩
      have HB3 := Lib.hid (HB1.out.trans (hb3.mono HB1.out.size))
      clear hb3
      go_wp2_with fail
      refine (HPA.out _ HB3.out).mono ?_
      rintro e w4 ⟨⟨v4, rfl, ho4⟩, hb4⟩
      obtain ⟨a4, c4, rfl, g41, g42, hs4⟩ := ho4.steps
      have HS4 := Lib.hid hs4
      have HB4 := Lib.hid (HB3.out.trans (hb4.mono HB3.out.size))
      clear hb4 ho4 hs4
      rw [HN.out] at g41 ⊢
      go_wp2_with fail
      refine (HPP.out _ _ _ HS4.out).mono ?_
      rintro e w5 ⟨a5, c5, rfl, g51, g52, hs5, hb5⟩
      have HB5 := Lib.hid (HB4.out.trans (hb5.mono HB4.out.size))
      have HS45 := Lib.hid (HS4.out.below hb5)
      have HS5 := Lib.hid hs5
      clear hs5 hb5
      go_wp2_with fail
      refine (HPL.out _ HB5.out).mono ?_
      rintro e w6 ⟨a6, c6, rfl, g61, g62, hs6, hb6⟩
      have HB6 := Lib.hid (HB5.out.trans (hb6.mono HB5.out.size))
      have HS46 := Lib.hid (HS45.out.below hb6)
      have HS56 := Lib.hid (HS5.out.below hb6)
      have HS6 := Lib.hid hs6
      clear hs6 hb6
      go_wp2_with fail
      refine (HSA.out _ _ _ _ _ HS56.out HS6.out).mono ?_
      rintro e w7 ⟨rfl, hb7⟩
      have HB7 := Lib.hid (HB6.out.trans (hb7.mono HB6.out.size))
      have HS47 := Lib.hid (HS46.out.below hb7)
      clear hb7
      go_wp2_with fail
      refine (HRR.out _ _ _ HS47.out).mono ?_
      rintro e w8 ⟨rfl, hb8⟩
      have HB8 := Lib.hid (HB7.out.trans (hb8.mono HB7.out.size))
      clear hb8
      go_wp2_with fail
      go_ret
      exact ⟨rfl, HB8.out⟩

end Go.Proofs.YtjcffbhgjmaicaaDoor
