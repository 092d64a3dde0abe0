/-
  Layer 55 (script): ScriptCuts.
-/
import Derived.Test.YtjcffbhgjmaicaaDoorScrLawA
import Derived.Test.YtjcffbhgjmaicaaDoorScrLawP
import Derived.Test.YtjcffbhgjmaicaaDoorScrRefA
import Derived.Deep.RegionHeldLaw
namespace Go.Proofs.YtjcffbhgjmaicaaDoor
open Go.RowKit
open Script

theorem stepsAt_take {w : World} {a : Option Addr} {l : List Script.Step} (h : StepsAt w a l) (k : Nat) : StepsAt w a (l.take k) := by
  intro i s hi
  rw [List.getElem?_take] at hi
  split at hi
  · exact h i s hi
  · cases hi

theorem run_headstr (l : List UInt8) (j : Nat) (hj : j ≤ l.length) : ∀ V : World, (Instr.slice 9 (.string ⟨⟨l⟩⟩) none (some (.int .i64 (j : Int))) none).run Tryd.prog V = .ok (.string ⟨⟨l.take j⟩⟩) V := by
  intro V
  rw [run_slice_string_to_if V 9 ⟨⟨l⟩⟩ .i64 (j : Int) Tryd.underlying9]
  have hs : (ByteArray.mk ⟨l⟩).size = l.length := rfl
  rw [if_pos ⟨by omega, by rw [hs]; omega⟩, Int.toNat_natCast]
  have h := Lib.extract_data ⟨⟨l⟩⟩ 0 j
  generalize (ByteArray.mk ⟨l⟩).extract 0 j = x at *
  obtain ⟨⟨d⟩⟩ := x
  simp only at h
  rw [h, List.drop_zero, Nat.sub_zero]

set_option maxRecDepth 100000 in
set_option maxHeartbeats 4000000 in
theorem scriptCuts_any (a : Option Addr) (n c : Nat) (l : List Script.Step) (z : Int) (w : World) (hn : l.length = n) (hnc : n ≤ c) (hcm : c ≤ maxLen) (hz0 : 0 ≤ z) (hz1 : z ≤ 65535) (h : StepsAt0 w a l) (hrd : Ready w) :
    Calls Tryd.prog 9 #[.slice a n c, .int .u16 z] w fun e w' => e = .returned (.bool true) ∧ Below w.heap.size w w' := by
  have hn2 : n ≤ maxLen := Nat.le_trans hnc hcm
  have HAW := Lib.hid (awake_any w hrd)
  have HRD := Lib.hid (fun (V : World) (hV : Below w.heap.size w V) => hrd.below hV)
  have HGR := Lib.hid (fun (V : World) (hV : Below w.heap.size w V) => great_any a n c l V hn hn2 (h.below hV))
  unfold maxLen at hn2
  by_cases hg : greatS l = true
  · simp only [hg, if_true] at HGR
    clear h hrd
    go_enter Tryd.func9, Tryd.ntmps9
    go_wp2_with fail
    refine HAW.out.mono ?_
    rintro e w1 ⟨rfl, hb1⟩
    have HB1 := Lib.hid hb1
    clear hb1
    go_wp2_with fail
    refine (HGR.out _ HB1.out).mono ?_
    rintro e w2 ⟨rfl, rfl⟩
    go_wp2_with fail
    go_ret
    exact ⟨rfl, HB1.out⟩
  · have hg' : greatS l = false := by simpa using hg
    have hst := stepsAt_of h hg'
    simp only [hg', Bool.false_eq_true, if_false] at HGR
    clear h hrd hg
    by_cases h60 : 60 < n
    · clear hst
      go_enter Tryd.func9, Tryd.ntmps9
      go_wp2_with fail
      refine HAW.out.mono ?_
      rintro e w1 ⟨rfl, hb1⟩
      have HB1 := Lib.hid hb1
      clear hb1
      go_wp2_with fail
      refine (HGR.out _ HB1.out).mono ?_
      rintro e w2 ⟨rfl, rfl⟩
      go_wp2_with fail
      go_ret
      exact ⟨rfl, HB1.out⟩
    · have hn60 : n ≤ 60 := by omega
      clear h60 hn2
      have HTX := Lib.hid (fun (V : World) (hV : Below w.heap.size w V) => text_any a n c l V hn (by omega) (hst.below hV) (HRD.out V hV))
      cases hra : rightAll l with
      | false =>
        have e1 : textOf l = [] := by unfold textOf; rw [hra]; rfl
        have e2 : textErr l = 3 := by unfold textErr; rw [hra]; rfl
        rw [e1, e2] at HTX
        clear e1 e2 hra hst hg'
        go_enter Tryd.func9, Tryd.ntmps9
        go_wp2_with fail
        refine HAW.out.mono ?_
        rintro e w1 ⟨rfl, hb1⟩
        have HB1 := Lib.hid hb1
        clear hb1
        go_wp2_with fail
        refine (HGR.out _ HB1.out).mono ?_
        rintro e w2 ⟨rfl, rfl⟩
        go_wp2_with fail
        refine (HTX.out _ HB1.out).mono ?_
        rintro e w3 ⟨rfl, hb3⟩
        have HB3 := Lib.hid (HB1.out.trans (hb3.mono HB1.out.size))
        clear hb3
        go_wp2_with fail
        go_ret
        exact ⟨rfl, HB3.out⟩
      | true =>
        obtain ⟨e1, e2, e3, -, -⟩ := right_text hst hg' hra
        obtain ⟨-, hall⟩ := rightAll_yes hra
        have hwr : ∀ x ∈ l, Script.Wf x ∧ Script.right x = true := fun x hx => ⟨stepsAt_wf hst x hx, hall x hx⟩
        have HCL := Lib.hid (fun k hk => Script.cut_law hwr (by omega) (k := k) hk)
        rw [e1, e2] at HTX
        generalize Script.text l = T at *
        obtain ⟨q, hq⟩ : ∃ q, q = T.length := ⟨_, rfl⟩
        rw [← hq] at e3 HCL
        have HQ := Lib.hid hq
        obtain ⟨S, hS⟩ : ∃ S, S = ByteArray.mk T.toArray := ⟨_, rfl⟩
        rw [← hS] at HTX
        have hsz : S.size = q := by rw [hS, hq]; show T.toArray.size = _; rw [List.size_toArray]
        have HS := Lib.hid hS
        clear e1 e2 hra hg' hwr hall hS hq
        rcases Nat.eq_zero_or_pos q with h0 | hp
        · have hemp : S.toList.isEmpty = true := by
            rw [HS.out, bytes_toList]
            have : T = [] := List.eq_nil_of_length_eq_zero (by rw [← HQ.out]; exact h0)
            rw [this]; rfl
          clear hst HCL
          go_enter Tryd.func9, Tryd.ntmps9
          go_wp2_with fail
          refine HAW.out.mono ?_
          rintro e w1 ⟨rfl, hb1⟩
          have HB1 := Lib.hid hb1
          clear hb1
          go_wp2_with fail
          refine (HGR.out _ HB1.out).mono ?_
          rintro e w2 ⟨rfl, rfl⟩
          go_wp2_with fail
          refine (HTX.out _ HB1.out).mono ?_
          rintro e w3 ⟨rfl, hb3⟩
          have HB3 := Lib.hid (HB1.out.trans (hb3.mono HB1.out.size))
          clear hb3
          go_wp2_with fail
          go_ret
          exact ⟨rfl, HB3.out⟩
        · have hemp : S.toList.isEmpty = false := by
            rw [HS.out, bytes_toList]
            have h0 := HQ.out
            cases T with
            | nil => simp at h0; omega
            | cons c r => rfl
          obtain ⟨y, rfl⟩ : ∃ y : Nat, z = (y : Int) := ⟨z.toNat, by omega⟩
          obtain ⟨k, hk⟩ : ∃ k, k = y % q := ⟨_, rfl⟩
          have hkq : k < q := by rw [hk]; exact Nat.mod_lt _ hp
          have hrem : (y : Int).tmod (q : Int) = (k : Int) := by rw [Int.tmod_eq_emod_of_nonneg (by omega), hk]; exact_mod_cast rfl
          have HLK := HCL.out k (by omega)
          obtain ⟨j, hj⟩ : ∃ j, j = (T.take k).count 10 := ⟨_, rfl⟩
          have hjk : j ≤ k := by rw [hj]; exact Nat.le_trans (List.count_le_length) (by rw [List.length_take]; omega)
          have HJ := Lib.hid hj
          rw [← hj] at HLK
          obtain ⟨hjl, hyes, hno⟩ := HLK
          rw [hn] at hjl
          have HYES := Lib.hid hyes
          have HNO := Lib.hid hno
          have HPA := Lib.hid (fun (V : World) (hV : Below w.heap.size w V) => parse_any ⟨⟨T.take k⟩⟩ V (by show (T.take k).length ≤ _; rw [List.length_take]; omega) (HRD.out V hV))
          rw [show (ByteArray.mk ⟨T.take k⟩).data.toList = T.take k from rfl] at HPA
          have hsub : ∀ V : World, (Instr.slice 9 (.string S) none (some (.int .i64 (k : Int))) none).run Tryd.prog V = .ok (.string ⟨⟨T.take k⟩⟩) V := by
            rw [HS.out]
            exact run_headstr T k (by rw [← HQ.out]; omega)
          unfold ParseRes at HPA
          have HN := Lib.hid hn
          have HST := Lib.hid hst
          clear hst hk hj hyes hno HCL hn
          go_enter Tryd.func9, Tryd.ntmps9
          go_wp2_with fail
          refine HAW.out.mono ?_
          rintro e w1 ⟨rfl, hb1⟩
          have HB1 := Lib.hid hb1
          clear hb1
          go_wp2_with fail
          refine (HGR.out _ HB1.out).mono ?_
          rintro e w2 ⟨rfl, rfl⟩
          go_wp2_with fail
          refine (HTX.out _ HB1.out).mono ?_
          rintro e w3 ⟨rfl, hb3⟩
          have HB3 := Lib.hid (HB1.out.trans (hb3.mono HB1.out.size))
          clear hb3
          go_wp2_with fail
          go_loopw [8, 9] (fun x i wr => ∃ d : Nat, d ≤ k ∧ i = .int .i64 d ∧ x = .int .i64 (((T.take d).count 10 : Nat) : Int) ∧ Below w.heap.size w wr) (fun _ i _ => k - (intOf i).toNat)
          case atStart => exact ⟨0, by omega, rfl, rfl, HB3.out⟩
          case round =>
            obtain ⟨d, hd, rfl, rfl, hb⟩ := hrel
            have HB := Lib.hid hb
            clear hb
            by_cases hdk : d < k
            · obtain ⟨u, hu⟩ : ∃ u, T[d]? = some u := ⟨T[d]'(by rw [← HQ.out]; omega), List.getElem?_eq_getElem _⟩
              have hat := run_at hu
              rw [show (ByteArray.mk ⟨T⟩) = S from HS.out.symm] at hat
              have HTK := Lib.hid (take_snoc hu)
              have hle : (T.take d).count 10 ≤ d := Nat.le_trans (List.count_le_length) (by rw [List.length_take]; omega)
              have HC1 : Hid ((T.take (d + 1)).count 10 = (T.take d).count 10 + if u = 10 then 1 else 0) := by
                show _ = _
                rw [HTK.out, List.count_append]
                by_cases hu10 : u = 10
                · rw [if_pos hu10, hu10]; rfl
                · have h0 : [u].count 10 = 0 := List.count_eq_zero.2 (fun h => hu10 (by simpa using (List.mem_singleton.1 h).symm))
                  rw [if_neg hu10, h0]
              clear hu
              generalize (T.take d).count 10 = x at *
              by_cases hu10 : u = 10
              · subst hu10
                rw [show ((10 : UInt8).toNat : Int) = 10 from rfl] at hat
                go_wp2_with fail
                go_roundw
                case rel => exact ⟨d + 1, by omega, by go_num, by rw [HC1.out, if_pos rfl]; go_num, HB.out⟩
                case measure => simp [intOf]; omega
              · have hub : (((u.toNat : Nat) : Int) == 10) = false := by
                  rw [beq_eq_false_iff_ne]
                  intro h
                  apply hu10
                  apply UInt8.toNat_inj.1
                  show u.toNat = 10
                  omega
                have HC2 := HC1.out
                rw [if_neg hu10] at HC2
                clear hu10 HC1
                generalize u.toNat = un at *
                go_wp2_with fail
                go_roundw
                case rel => exact ⟨d + 1, by omega, by go_num, by rw [HC2]; go_num, HB.out⟩
                case measure => simp [intOf]; omega
            · obtain rfl : k = d := by omega
              rw [← HJ.out]
              by_cases hck : k = 0 ∨ T[k - 1]? = some 10
              · have hp := HYES.out hck
                simp only [hp] at HPA
                have HLJ : Hid ((l.take j).length = j) := by show _ = _; rw [List.length_take, HN.out]; omega
                have HPP := Lib.hid (fun (V : World) (a' : Option Addr) (c' : Nat) (hV : StepsAt V a' (l.take j)) => plain_any a' j c' (l.take j) V HLJ.out (by omega) hV)
                have HPM := Lib.hid (fun (V : World) (hV : Below w.heap.size w V) => HPP.out V a c (stepsAt_take (HST.out.below hV) j))
                have HSA := Lib.hid (fun (V : World) (a' b' : Option Addr) (ca cb : Nat) (hA : StepsAt V a' (l.take j)) (hB : StepsAt V b' (l.take j)) => same_any a' b' j ca cb (l.take j) V HLJ.out (by omega) hA hB)
                have hmin : min (j : Int) (n : Int) = (j : Int) := by omega
                have hmin3 : (min (j : Int) (n : Int)).toNat = j := by omega
                have hmin2 : ¬ (n : Int) < (j : Int) := by omega
                clear hp HYES HNO
                have HCK := Lib.hid hck
                clear hck
                go_wp2_with fail
                refine (HPA.out _ HB.out).mono ?_
                rintro e w4 ⟨⟨v4, rfl, ho4⟩, hb4⟩
                obtain ⟨a4, c4, rfl, g41, g42, hs4⟩ := ho4.steps
                have HB4 := Lib.hid (HB.out.trans (hb4.mono HB.out.size))
                have HP4 := Lib.hid (fun (V : World) (hV : Below w4.heap.size w4 V) => HPP.out V a4 c4 (hs4.below hV))
                have HPM4 := Lib.hid (fun (V : World) (hV : Below w4.heap.size w4 V) => HPM.out V (HB4.out.trans (hV.mono HB4.out.size)))
                have HR4 := Lib.hid (Below.refl w4.heap.size w4)
                have HR4d := Lib.hid (Below.refl w4.heap.size w4).drew
                clear hb4 ho4 hs4 HPA HPM HPP
                rw [HLJ.out] at g41 ⊢
                rcases Nat.eq_zero_or_pos k with hk0 | hkp
                case' inr =>
                  have hlast : T[k - 1]? = some 10 := by
                    rcases HCK.out with h0 | h0
                    · omega
                    · exact h0
                  have hat := run_at hlast
                  rw [show (ByteArray.mk ⟨T⟩) = S from HS.out.symm, show ((10 : UInt8).toNat : Int) = 10 from rfl, show ((k - 1 : Nat) : Int) = (k : Int) - 1 by omega] at hat
                  have hk0' : ((k : Int) == 0) = false := by rw [beq_eq_false_iff_ne]; omega
                  clear hlast
                case' inl =>
                  have hk0' : ((k : Int) == 0) = true := by rw [beq_iff_eq]; omega
                all_goals
                  go_wp2_with fail
                  go_region_held_law (fun V => Below w4.heap.size w4 V)
                    (first | (with_reducible exact HR4.out) | (with_reducible exact HR4d.out) | (with_reducible exact HB6.out) | (with_reducible exact HB5.out) | (with_reducible exact HB7.out) | fail)
                    (first
                      | (go_at_call 15
                         with_reducible refine (HP4.out _ (by assumption)).mono ?_
                         rintro e w5 ⟨a5, c5, rfl, g51, g52, hs5, hb5⟩
                         have HSm := Lib.hid hs5
                         have HBm := Lib.hid hb5
                         have HB5 := Lib.hid (Below.trans (by assumption : Below w4.heap.size w4 _) (hb5.mono (by assumption : Below w4.heap.size w4 _).size))
                         clear hs5 hb5)
                      | (go_at_call 15
                         with_reducible refine (HPM4.out _ (by assumption)).mono ?_
                         rintro e w6 ⟨a6, c6, rfl, g61, g62, hs6, hb6⟩
                         have HSl := Lib.hid hs6
                         have HBl := Lib.hid hb6
                         have HB6 := Lib.hid (Below.trans (by assumption : Below w4.heap.size w4 _) (hb6.mono (by assumption : Below w4.heap.size w4 _).size))
                         clear hs6 hb6)
                      | (go_at_call 14
                         have _x := HB6
                         refine (HSA.out _ _ _ _ _ (HSm.out.below HBl.out) HSl.out).mono ?_
                         rintro e w7 ⟨rfl, hb7⟩
                         have HB7 := Lib.hid (HB6.out.trans (hb7.mono HB6.out.size))
                         clear hb7)
                      | (go_at_call 14
                         refine (HSA.out _ _ _ _ _ HSm.out (HSl.out.below HBm.out)).mono ?_
                         rintro e w7 ⟨rfl, hb7⟩
                         have HB7 := Lib.hid (HB5.out.trans (hb7.mono HB5.out.size))
                         clear hb7))
                  all_goals
                    go_wp2_with fail
                    go_ret
                    exact ⟨rfl, HB4.out.trans (HB7.out.mono HB4.out.size)⟩
              · obtain ⟨er, hp, her⟩ := HNO.out hck
                simp only [hp] at HPA
                have hkp : 0 < k := by
                  rcases Nat.eq_zero_or_pos k with h0 | h0
                  · exact absurd (.inl h0) hck
                  · exact h0
                obtain ⟨u, hu⟩ : ∃ u, T[k - 1]? = some u := ⟨T[k - 1]'(by rw [← HQ.out]; omega), List.getElem?_eq_getElem _⟩
                have hat := run_at hu
                rw [show (ByteArray.mk ⟨T⟩) = S from HS.out.symm, show ((k - 1 : Nat) : Int) = (k : Int) - 1 by omega] at hat
                have hk0' : ((k : Int) == 0) = false := by rw [beq_eq_false_iff_ne]; omega
                have hub : (((u.toNat : Nat) : Int) == 10) = false := by
                  rw [beq_eq_false_iff_ne]
                  intro h
                  apply hck
                  right
                  rw [hu]
                  congr 1
                  apply UInt8.toNat_inj.1
                  show u.toNat = 10
                  omega
                clear hp HYES HNO hck hu
                generalize u.toNat = un at *
                rcases her with rfl | rfl
                all_goals
                  go_wp2_with fail
                  refine (HPA.out _ HB.out).mono ?_
                  rintro e w4 ⟨rfl, hb4⟩
                  have HB4 := Lib.hid (HB.out.trans (hb4.mono HB.out.size))
                  clear hb4
                  go_wp2_with fail
                  go_ret
                  exact ⟨rfl, HB4.out⟩

end Go.Proofs.YtjcffbhgjmaicaaDoor
