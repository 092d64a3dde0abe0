/-
  Layer 55 (script): ScriptBack.
-/
import Derived.Test.YtjcffbhgjmaicaaDoorScrLawA
import Derived.Test.YtjcffbhgjmaicaaDoorScrLawP
import Derived.Test.YtjcffbhgjmaicaaDoorScrRefB
namespace Go.Proofs.YtjcffbhgjmaicaaDoor
open Go.RowKit
open Script

set_option maxRecDepth 100000 in
set_option maxHeartbeats 4000000 in
theorem scriptBack_any (sl : List UInt8) (w : World) (hs : sl.length ≤ maxLen) (hrd : Ready w) :
    Calls Tryd.prog 6 #[.string ⟨⟨sl⟩⟩] w fun e w' => e = .returned (.bool true) ∧ Below w.heap.size w w' := by
  have HAW := Lib.hid (awake_any w hrd)
  have HRD := Lib.hid (fun (V : World) (hV : Below w.heap.size w V) => hrd.below hV)
  unfold maxLen at hs
  obtain ⟨n, hn⟩ : ∃ n, n = sl.length := ⟨_, rfl⟩
  have hsz : (ByteArray.mk ⟨sl⟩).size = n := hn.symm
  obtain ⟨S, hS⟩ : ∃ S, S = ByteArray.mk ⟨sl⟩ := ⟨_, rfl⟩
  rw [← hn] at hs
  rw [← hS] at hsz ⊢
  by_cases hn2 : 2000 < n
  · clear hrd hn hS
    go_enter Tryd.func6, Tryd.ntmps6
    go_wp2_with fail
    refine HAW.out.mono ?_
    rintro e w1 ⟨rfl, hb1⟩
    have HB1 := Lib.hid hb1
    clear hb1
    go_wp2_with fail
    go_ret
    exact ⟨rfl, HB1.out⟩
  · have hn3 : n ≤ 2000 := by omega
    clear hn2
    have HPA := Lib.hid (fun (V : World) (hV : Below w.heap.size w V) => parse_any S V (by rw [hsz]; omega) (HRD.out V hV))
    have hSd : S.data.toList = sl := by rw [hS]
    rw [hSd] at HPA
    cases hpo : Script.parseOf sl with
    | bad k er =>
      obtain ⟨hk1, her⟩ := bad_of hpo
      unfold ParseRes at HPA
      simp only [hpo] at HPA
      have i1 : ((er : Int) == 0) = false := by rw [beq_eq_false_iff_ne]; omega
      have i2 : (1 : Int) ≤ (k : Int) := by omega
      clear hrd hn hS hpo her hSd hk1
      go_enter Tryd.func6, Tryd.ntmps6
      go_wp2_with fail
      refine HAW.out.mono ?_
      rintro e w1 ⟨rfl, hb1⟩
      have HB1 := Lib.hid hb1
      clear hb1
      go_wp2_with fail
      refine (HPA.out _ HB1.out).mono ?_
      rintro e w2 ⟨rfl, hb2⟩
      have HB2 := Lib.hid (HB1.out.trans (hb2.mono HB1.out.size))
      clear hb2
      go_wp2_with fail
      go_ret
      exact ⟨rfl, HB2.out⟩
    | ok l =>
      obtain ⟨h1, h2, h3⟩ := ok_of hpo
      unfold ParseRes at HPA
      simp only [hpo] at HPA
      have hra : rightAll l = true := by
        unfold rightAll
        rw [Bool.and_eq_true, decide_eq_true_iff, List.all_eq_true]
        exact ⟨h3, fun x hx => (h2 x hx).2⟩
      have e1 : textOf l = sl := by unfold textOf; rw [hra, h1]; rfl
      have e2 : textErr l = 0 := by unfold textErr; rw [hra]; rfl
      obtain ⟨m, hm⟩ : ∃ m, l.length = m := ⟨_, rfl⟩
      have hm2 : m ≤ 200 := by rw [← hm]; exact h3
      have HTX := Lib.hid (fun (V : World) (hV : Below w.heap.size w V) (a : Option Addr) (c : Nat) (h : StepsAt V a l) => text_any a m c l V hm (by omega) h (HRD.out V hV))
      have HRA := Lib.hid (fun (V : World) (a : Option Addr) (c : Nat) (h : StepsAt V a l) => rightAll_any a m c l V hm (by omega) h)
      rw [e1, e2] at HTX
      rw [hra] at HRA
      obtain ⟨D, hD⟩ : ∃ D, D = ByteArray.mk sl.toArray := ⟨_, rfl⟩
      rw [← hD] at HTX
      have hbe : (D.toList == S.toList) = true := by rw [hD, hS]; rw [beq_strs, decide_eq_true rfl]
      have HM := Lib.hid hm
      clear hrd hn hS hpo h1 h2 h3 hra e1 e2 hD hSd hm
      go_enter Tryd.func6, Tryd.ntmps6
      go_wp2_with fail
      refine HAW.out.mono ?_
      rintro e w1 ⟨rfl, hb1⟩
      have HB1 := Lib.hid hb1
      clear hb1
      go_wp2_with fail
      refine (HPA.out _ HB1.out).mono ?_
      rintro e w2 ⟨⟨v2, rfl, ho2⟩, hb2⟩
      obtain ⟨a2, c2, rfl, g1, g2, hs2⟩ := ho2.steps
      have HB2 := Lib.hid (HB1.out.trans (hb2.mono HB1.out.size))
      have HS2 := Lib.hid hs2
      rw [HM.out] at g1 ⊢
      clear hb2 ho2 hs2
      go_wp2_with fail
      refine (HTX.out _ HB2.out _ _ HS2.out).mono ?_
      rintro e w3 ⟨rfl, hb3⟩
      have HB3 := Lib.hid (HB2.out.trans (hb3.mono HB2.out.size))
      have HS3 := Lib.hid (HS2.out.below hb3)
      clear hb3
      go_wp2_with fail
      refine (HRA.out _ _ _ HS3.out).mono ?_
      rintro e w4 ⟨rfl, hb4⟩
      have HB4 := Lib.hid (HB3.out.trans (hb4.mono HB3.out.size))
      clear hb4
      go_wp2_with fail
      go_ret
      exact ⟨rfl, HB4.out⟩

end Go.Proofs.YtjcffbhgjmaicaaDoor
