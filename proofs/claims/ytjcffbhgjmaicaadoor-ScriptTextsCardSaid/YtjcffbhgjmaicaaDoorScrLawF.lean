/-
  Layer 55 (script): ScriptTexts.
-/
import Derived.Test.YtjcffbhgjmaicaaDoorScrLawA
import Derived.Test.YtjcffbhgjmaicaaDoorScrRefD
namespace Go.Proofs.YtjcffbhgjmaicaaDoor
open Go.RowKit
open Script

set_option maxRecDepth 100000 in
set_option maxHeartbeats 4000000 in
theorem scriptTexts_any (a : Option Addr) (n c : Nat) (l : List Script.Step) (w : World) (hn : l.length = n) (hn2 : n ≤ maxLen) (h : StepsAt0 w a l) (hrd : Ready w) :
    Calls Tryd.prog 4 #[.slice a n c] w fun e w' => e = .returned (.bool true) ∧ Below w.heap.size w w' := by
  have HAW := Lib.hid (awake_any w hrd)
  have HRD := Lib.hid (fun (V : World) (hV : Below w.heap.size w V) => hrd.below hV)
  have HGR := Lib.hid (fun (V : World) (hV : Below w.heap.size w V) => great_any a n c l V hn hn2 (h.below hV))
  unfold maxLen at hn2
  by_cases hg : greatS l = true
  · simp only [hg, if_true] at HGR
    clear h hrd
    go_enter Tryd.func4, Tryd.ntmps4
    go_wp2_with fail
    refine HAW.out.mono ?_
    rintro e w1 ⟨rfl, hb1⟩
    have HB1 := Lib.hid hb1
    clear hb1
    go_wp2_with fail
    refine (HGR.out _ HB1.out).mono ?_
    rintro e w2 ⟨rfl, rfl⟩
    go_wp2_with fail
    go_ret
    exact ⟨rfl, HB1.out⟩
  · have hg' : greatS l = false := by simpa using hg
    have hst := stepsAt_of h hg'
    simp only [hg', Bool.false_eq_true, if_false] at HGR
    have hn3 : n ≤ 210 := by rw [← hn]; exact (greatS_no hg').1
    have hln : ∀ x ∈ l, Script.right x = true → (Script.line x).length ≤ 3510 := by
      intro x hx hr
      have := (greatS_no hg').2
      rw [List.any_eq_false] at this
      exact line_short hr (stepsAt_wf hst x hx) (by simpa using this x hx)
    have HTX := Lib.hid (fun (V : World) (hV : Below w.heap.size w V) => text_any a n c l V hn (by omega) (hst.below hV) (HRD.out V hV))
    have HRA := Lib.hid (fun (V : World) (hV : Below w.heap.size w V) => rightAll_any a n c l V hn (by omega) (hst.below hV))
    have HPL := Lib.hid (fun (V : World) (hV : Below w.heap.size w V) => plain_any a n c l V hn (by omega) (hst.below hV))
    have HRT := Lib.hid (fun (V : World) (a' : Option Addr) (c' : Nat) (hV : StepsAt V a' l) => rtext_any a' n c' l V hn (by omega) hV hln)
    obtain ⟨S, hS⟩ : ∃ S, S = ByteArray.mk (textOf l).toArray := ⟨_, rfl⟩
    rw [← hS] at HTX HRT
    have hbe : (S.toList == S.toList) = true := beq_self_eq_true _
    clear h hrd hst hg hg' hS hln
    cases hra : rightAll l with
    | false =>
      have e2 : textErr l = 3 := by unfold textErr; rw [hra]; rfl
      rw [e2] at HTX HRT
      rw [hra] at HRA
      clear e2 hra
      go_enter Tryd.func4, Tryd.ntmps4
      go_wp2_with fail
      refine HAW.out.mono ?_
      rintro e w1 ⟨rfl, hb1⟩
      have HB1 := Lib.hid hb1
      clear hb1
      go_wp2_with fail
      refine (HGR.out _ HB1.out).mono ?_
      rintro e w2 ⟨rfl, rfl⟩
      go_wp2_with fail
      refine (HTX.out _ HB1.out).mono ?_
      rintro e w3 ⟨rfl, hb3⟩
      have HB3 := Lib.hid (HB1.out.trans (hb3.mono HB1.out.size))
      clear hb3
      go_wp2_with fail
      refine (HPL.out _ HB3.out).mono ?_
      rintro e w4 ⟨a4, c4, rfl, g41, g42, hs4, hb4⟩
      have HB4 := Lib.hid (HB3.out.trans (hb4.mono HB3.out.size))
      have HS4 := Lib.hid hs4
      clear hs4 hb4
      go_wp2_with fail
      refine (HRT.out _ _ _ HS4.out).mono ?_
      rintro e w5 ⟨rfl, hb5⟩
      have HB5 := Lib.hid (HB4.out.trans (hb5.mono HB4.out.size))
      clear hb5
      go_wp2_with fail
      refine (HRA.out _ HB5.out).mono ?_
      rintro e w6 ⟨rfl, hb6⟩
      have HB6 := Lib.hid (HB5.out.trans (hb6.mono HB5.out.size))
      clear hb6
      go_wp2_with fail
      go_ret
      exact ⟨rfl, HB6.out⟩
    | true =>
      have e2 : textErr l = 0 := by unfold textErr; rw [hra]; rfl
      rw [e2] at HTX HRT
      rw [hra] at HRA
      clear e2 hra
      go_enter Tryd.func4, Tryd.ntmps4
      go_wp2_with fail
      refine HAW.out.mono ?_
      rintro e w1 ⟨rfl, hb1⟩
      have HB1 := Lib.hid hb1
      clear hb1
      go_wp2_with fail
      refine (HGR.out _ HB1.out).mono ?_
      rintro e w2 ⟨rfl, rfl⟩
      go_wp2_with fail
      refine (HTX.out _ HB1.out).mono ?_
      rintro e w3 ⟨rfl, hb3⟩
      have HB3 := Lib.hid (HB1.out.trans (hb3.mono HB1.out.size))
      clear hb3
      go_wp2_with fail
      refine (HPL.out _ HB3.out).mono ?_
      rintro e w4 ⟨a4, c4, rfl, g41, g42, hs4, hb4⟩
      have HB4 := Lib.hid (HB3.out.trans (hb4.mono HB3.out.size))
      have HS4 := Lib.hid hs4
      clear hs4 hb4
      go_wp2_with fail
      refine (HRT.out _ _ _ HS4.out).mono ?_
      rintro e w5 ⟨rfl, hb5⟩
      have HB5 := Lib.hid (HB4.out.trans (hb5.mono HB4.out.size))
      clear hb5
      go_wp2_with fail
      refine (HRA.out _ HB5.out).mono ?_
      rintro e w6 ⟨rfl, hb6⟩
      have HB6 := Lib.hid (HB5.out.trans (hb6.mono HB5.out.size))
      clear hb6
      go_wp2_with fail
      go_ret
      exact ⟨rfl, HB6.out⟩

end Go.Proofs.YtjcffbhgjmaicaaDoor
