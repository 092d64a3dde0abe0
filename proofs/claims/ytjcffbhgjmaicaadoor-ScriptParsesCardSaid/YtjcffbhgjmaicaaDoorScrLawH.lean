/-
  Layer 55 (script): ScriptParses.
-/
import Derived.Test.YtjcffbhgjmaicaaDoorScrLawA
import Derived.Test.YtjcffbhgjmaicaaDoorScrLawP
import Derived.Test.YtjcffbhgjmaicaaDoorScrRefH
namespace Go.Proofs.YtjcffbhgjmaicaaDoor
open Go.RowKit
open Script
set_option linter.unusedVariables false

set_option maxRecDepth 100000 in
set_option maxHeartbeats 4000000 in
theorem scriptParses_any (sl : List UInt8) (w : World) (hs : sl.length ≤ maxLen) (hrd : Ready w) :
    Calls Tryd.prog 3 #[.string ⟨⟨sl⟩⟩] w fun e w' => e = .returned (.bool true) ∧ Below w.heap.size w w' := by
  have HAW := Lib.hid (awake_any w hrd)
  have HRD := Lib.hid (fun (V : World) (hV : Below w.heap.size w V) => hrd.below hV)
  unfold maxLen at hs
  obtain ⟨n, hn⟩ : ∃ n, n = sl.length := ⟨_, rfl⟩
  have hsz : (ByteArray.mk ⟨sl⟩).size = n := hn.symm
  obtain ⟨S, hS⟩ : ∃ S, S = ByteArray.mk ⟨sl⟩ := ⟨_, rfl⟩
  by_cases hn2 : 2000 < n
  · rw [← hn] at hs
    rw [← hS] at hsz ⊢
    clear hrd hn hS
    go_enter Tryd.func3, Tryd.ntmps3
    go_wp2_with fail
    refine HAW.out.mono ?_
    rintro e w1 ⟨rfl, hb1⟩
    have HB1 := Lib.hid hb1
    clear hb1
    go_wp2_with fail
    go_ret
    exact ⟨rfl, HB1.out⟩
  · have hn3 : n ≤ 2000 := by omega
    have HPR := Lib.hid (fun (V : World) => rparse_any sl V (by omega))
    rw [← hn] at hs
    rw [← hS] at hsz HPR ⊢
    clear hn2
    have HPA := Lib.hid (fun (V : World) (hV : Below w.heap.size w V) => parse_any S V (by rw [hsz]; omega) (HRD.out V hV))
    have hSd : S.data.toList = sl := by rw [hS]
    rw [hSd] at HPA
    cases hpo : Script.parseOf sl with
    | bad k er =>
      unfold ParseRes at HPA
      unfold RParseRes at HPR
      simp only [hpo] at HPA HPR
      have HPP := Lib.hid (fun (V : World) => plain_any none 0 0 [] V rfl (by omega) (stepsAt_nil V none))
      have HSA := Lib.hid (fun (V : World) (a' : Option Addr) (ca : Nat) (hA : StepsAt V a' []) => same_any a' none 0 ca 0 [] V rfl (by omega) hA (stepsAt_nil V none))
      clear hrd hn hS hpo hSd
      go_enter Tryd.func3, Tryd.ntmps3
      go_wp2_with fail
      refine HAW.out.mono ?_
      rintro e w1 ⟨rfl, hb1⟩
      have HB1 := Lib.hid hb1
      clear hb1
      go_wp2_with fail
      refine (HPA.out _ HB1.out).mono ?_
      rintro e w2 ⟨rfl, hb2⟩
      have HB2 := Lib.hid (HB1.out.trans (hb2.mono HB1.out.size))
      clear hb2
      go_wp2_with fail
      refine (HPR.out _).mono ?_
      rintro e w3 ⟨rfl, hb3⟩
      have HB3 := Lib.hid (HB2.out.trans (hb3.mono HB2.out.size))
      clear hb3
      go_wp2_with fail
      refine (HPP.out _).mono ?_
      rintro e w4 ⟨a4, c4, rfl, g41, g42, hs4, hb4⟩
      have HB4 := Lib.hid (HB3.out.trans (hb4.mono HB3.out.size))
      have HS4 := Lib.hid hs4
      clear hs4 hb4
      go_wp2_with fail
      refine (HSA.out _ _ _ HS4.out).mono ?_
      rintro e w5 ⟨rfl, hb5⟩
      have HB5 := Lib.hid (HB4.out.trans (hb5.mono HB4.out.size))
      clear hb5
      go_wp2_with fail
      go_ret
      exact ⟨rfl, HB5.out⟩
    | ok l =>
      obtain ⟨h1, h2, h3⟩ := ok_of hpo
      unfold ParseRes at HPA
      unfold RParseRes at HPR
      simp only [hpo] at HPA HPR
      obtain ⟨m, hm⟩ : ∃ m, l.length = m := ⟨_, rfl⟩
      have hm2 : m ≤ 200 := by rw [← hm]; exact h3
      have HPP := Lib.hid (fun (V : World) (a' : Option Addr) (c' : Nat) (hV : StepsAt V a' l) => plain_any a' m c' l V hm (by omega) hV)
      have HSA := Lib.hid (fun (V : World) (a' b' : Option Addr) (ca cb : Nat) (hA : StepsAt V a' l) (hB : StepsAt V b' l) => same_any a' b' m ca cb l V hm (by omega) hA hB)
      have HM := Lib.hid hm
      clear hrd hn hS hpo h1 h2 h3 hSd hm
      go_enter Tryd.func3, Tryd.ntmps3
      go_wp2_with fail
      refine HAW.out.mono ?_
      rintro e w1 ⟨rfl, hb1⟩
      have HB1 := Lib.hid hb1
      clear hb1
      go_wp2_with fail
      refine (HPA.out _ HB1.out).mono ?_
      rintro e w2 ⟨⟨v2, rfl, ho2⟩, hb2⟩
      obtain ⟨a2, c2, rfl, g1, g2, hs2⟩ := ho2.steps
      have HB2 := Lib.hid (HB1.out.trans (hb2.mono HB1.out.size))
      have HS2 := Lib.hid hs2
      rw [HM.out] at g1 ⊢
      clear hb2 ho2 hs2
      go_wp2_with fail
      refine (HPR.out _).mono ?_
      rintro e w3 ⟨⟨v3, rfl, ho3⟩, hb3⟩
      obtain ⟨a3, c3, rfl, g31, g32, hs3⟩ := ho3.steps
      have HB3 := Lib.hid (HB2.out.trans (hb3.mono HB2.out.size))
      have HS23 := Lib.hid (HS2.out.below hb3)
      have HS3 := Lib.hid hs3
      rw [HM.out] at g31 ⊢
      clear hb3 ho3 hs3
      go_wp2_with fail
      refine (HPP.out _ _ _ HS23.out).mono ?_
      rintro e w4 ⟨a4, c4, rfl, g41, g42, hs4, hb4⟩
      have HB4 := Lib.hid (HB3.out.trans (hb4.mono HB3.out.size))
      have HS34 := Lib.hid (HS3.out.below hb4)
      have HS4 := Lib.hid hs4
      clear hs4 hb4
      go_wp2_with fail
      refine (HSA.out _ _ _ _ _ HS4.out HS34.out).mono ?_
      rintro e w5 ⟨rfl, hb5⟩
      have HB5 := Lib.hid (HB4.out.trans (hb5.mono HB4.out.size))
      clear hb5
      go_wp2_with fail
      go_ret
      exact ⟨rfl, HB5.out⟩

end Go.Proofs.YtjcffbhgjmaicaaDoor
