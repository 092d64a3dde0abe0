/-
  Layer 55 (script), the document's answer: Line, Text.
-/
import Derived.Test.YtjcffbhgjmaicaaDoorScrRefC
import Derived.Test.YtjcffbhgjmaicaaDoorScrText
import Derived.Test.YtjcffbhgjmaicaaDoorScrLaws
import Derived.Laws.Concat
namespace Go.Proofs.YtjcffbhgjmaicaaDoor
open Go.RowKit
open Script

theorem digits_small {y : Int} (h : Script.small y = true) (V : World) : Calls Tryd.prog 46 #[.int .i64 y] V fun e w' => e = .returned (.string ⟨(Lib.itoa y).toArray⟩) ∧ w' = V := by
  have h2 : -1000000000 ≤ y ∧ y ≤ 1000000000 := by
    unfold Script.small at h
    simpa using h
  exact digits_any y (by omega) (by omega) V

set_option maxRecDepth 100000 in
set_option maxHeartbeats 4000000 in
theorem rline_any (s : Script.Step) (cs : Array Value) (w : World) (hv : StepV w s cs) (hr : Script.right s = true) (hln : (Script.line s).length ≤ 1000000) :
    Calls Tryd.prog 28 #[.agg cs] w fun e w' => e = .returned (.string ⟨(Script.line s).toArray⟩) ∧ Below w.heap.size w w' := by
  obtain ⟨wd, m, hs, -, -, -⟩ := right_shape hr
  have hm4 : m ≤ 4 := shapes_many _ (shape_mem hs).1
  have ew : wordOf s.kind = wd := by unfold wordOf; rw [hs]
  have em : manyOf s.kind = m := by unfold manyOf; rw [hs]
  have hns := nums_small hr m
  have hli := line_behind hs
  have hwl : wd.length ≤ 5 := words_short _ (shape_mem hs).1
  obtain ⟨nm, n0, n1, n2, n3, ta, pa, ka, tc, pc, kc, e1, e2, rfl, h4, h5, h6, h7, h8⟩ := hv
  unfold stepCells
  obtain ⟨nl, hnl⟩ : ∃ nl, nl = s.name := ⟨_, rfl⟩
  have hnm : nm = ⟨⟨nl⟩⟩ := by rw [hnl, e1]
  subst hnm
  have HWD := Lib.hid (fun (V : World) => word_any s.kind V)
  rw [ew, em] at HWD
  unfold Script.nums at hns hli
  rw [← hnl] at hli
  obtain ⟨L, hL⟩ : ∃ L, L = s.n.take m := ⟨_, rfl⟩
  have hLm : L.length = m := by rw [hL, List.length_take, e2]; show min m 4 = m; omega
  rw [← hL] at hns hli
  have HLM := Lib.hid hLm
  have hLn : ∀ (j : Nat) (y : Int), L[j]? = some y → #[Value.int .i64 n0, .int .i64 n1, .int .i64 n2, .int .i64 n3][j]? = some (Value.int .i64 y) := by
    intro j y hy
    rw [hL, List.getElem?_take] at hy
    split at hy
    · rw [e2] at hy
      rcases (show j = 0 ∨ j = 1 ∨ j = 2 ∨ j = 3 by omega) with rfl | rfl | rfl | rfl <;> (simp at hy; subst hy; rfl)
    · cases hy
  have hLN := Lib.hid hLn
  have hbo := fun (V : World) (hV : Below w.heap.size w V) => rbody_any s.body ta pa ka tc pc kc V (h4.below hV) h5 h6 h7
  have HBO := Lib.hid hbo
  have hnbl : (Script.numbers s.body).length ≤ 2000000 := by
    unfold Script.numbers
    simp only [List.length_cons, List.length_append]
    have := h4.tl; have := h4.pl; omega
  have HNL := Lib.hid hnbl
  obtain ⟨T, hT⟩ : ∃ T, T = Script.line s := ⟨_, rfl⟩
  rw [← hT] at hln hli ⊢
  obtain ⟨k, hk⟩ : ∃ k, k = s.kind := ⟨_, rfl⟩
  rw [← hk] at hli hns HWD ⊢
  clear hk hT hL hLm hLn hbo e1 e2 hnl hs ew em hr h4 h5 h6 h7 h8 hnbl
  go_enter Tryd.func28, Tryd.ntmps28
  go_wp2_with fail
  refine (HWD.out _).mono ?_
  rintro e w1 ⟨rfl, hb1⟩
  have hw0 := (Below.refl w.heap.size w).alloc (Nat.le_refl _) (.cells #[.int .i64 k, .string ⟨⟨nl⟩⟩, .int .i64 n0, .int .i64 n1, .int .i64 n2, .int .i64 n3, .int .i64 s.body.sn, .slice ta s.body.tn tc, .slice pa s.body.pn pc, .slice ka s.body.k.length kc] 59)
  have hcw : ∀ j u, #[Value.int .i64 k, .string ⟨⟨nl⟩⟩, .int .i64 n0, .int .i64 n1, .int .i64 n2, .int .i64 n3, .int .i64 s.body.sn, .slice ta s.body.tn tc, .slice pa s.body.pn pc, .slice ka s.body.k.length kc][j]? = some u → (w.alloc (.cells #[.int .i64 k, .string ⟨⟨nl⟩⟩, .int .i64 n0, .int .i64 n1, .int .i64 n2, .int .i64 n3, .int .i64 s.body.sn, .slice ta s.body.tn tc, .slice pa s.body.pn pc, .slice ka s.body.k.length kc] 59)).cell? ⟨w.heap.size, j, none⟩ = some u := fun j u hj => by rw [World.cell?_alloc_new]; exact hj
  have c0 : w1.cell? ⟨w.heap.size, 0, none⟩ = some (.int .i64 k) := (hb1.cell (p := ⟨w.heap.size, 0, none⟩) (by simp)).trans (hcw 0 _ rfl)
  have c1 : w1.cell? ⟨w.heap.size, 1, none⟩ = some (.string ⟨⟨nl⟩⟩) := (hb1.cell (p := ⟨w.heap.size, 1, none⟩) (by simp)).trans (hcw 1 _ rfl)
  generalize w.alloc (.cells #[.int .i64 k, .string ⟨⟨nl⟩⟩, .int .i64 n0, .int .i64 n1, .int .i64 n2, .int .i64 n3, .int .i64 s.body.sn, .slice ta s.body.tn tc, .slice pa s.body.pn pc, .slice ka s.body.k.length kc] 59) = W0 at *
  have HCC := Lib.hid (fun (V : World) (hV : Below W0.heap.size W0 V) j u hj => (hV.cell (p := ⟨w.heap.size, j, none⟩) (lt_of_cell (hcw j u hj))).trans (hcw j u hj))
  have HCN : Hid (∀ (V : World), Below W0.heap.size W0 V → ∀ (j : Nat) (y : Int), j < m → L[j]? = some y → V.cell? ⟨w.heap.size, 2 + j, none⟩ = some (.int .i64 y)) := by
    intro V hV j y hj hy
    refine HCC.out V hV (2 + j) _ ?_
    have := hLN.out j y hy
    rcases (show j = 0 ∨ j = 1 ∨ j = 2 ∨ j = 3 by omega) with rfl | rfl | rfl | rfl <;> (simp at this; subst this; rfl)
  have HB1 := Lib.hid hb1
  have HBW := Lib.hid (fun (V : World) (hV : Below W0.heap.size W0 V) => hw0.trans (hV.mono hw0.size))
  clear hw0 hcw hb1
  by_cases hk1 : k = 1
  · subst hk1
    rw [if_pos rfl] at hns hli
    rw [List.all_append, Bool.and_eq_true] at hns
    have HSM := Lib.hid hns.1
    have HSB := Lib.hid hns.2
    obtain ⟨X, hX⟩ : ∃ X, X = wd ++ [32] := ⟨_, rfl⟩
    obtain ⟨B, hB⟩ : ∃ B, B = X ++ nl := ⟨_, rfl⟩
    have e0 : T = (B ++ behind L) ++ behind (Script.numbers s.body) := by rw [hli, if_pos rfl, hB, hX]; unfold behind; simp
    have e9 := congrArg List.length e0
    rw [List.length_append, List.length_append] at e9
    have HBL : Hid (B.length + (behind L).length ≤ 1000000) := by show _ ≤ _; omega
    have hBl : B.length = wd.length + 1 + nl.length := by rw [hB, hX]; simp; omega
    have hadda : ∀ V : World, (Op.stringOp .add ⟨wd.toArray⟩ ⟨#[32]⟩).run Tryd.prog V = .ok (.string ⟨X.toArray⟩) V := by
      rw [hX]
      exact fun V => run_string_add_lists _ wd [32] (by omega) (by simp)
    have haddb : ∀ V : World, (Op.stringOp .add ⟨X.toArray⟩ ⟨⟨nl⟩⟩).run Tryd.prog V = .ok (.string ⟨B.toArray⟩) V := by
      rw [hB]
      exact fun V => run_string_add_lists _ X nl (by rw [hX, List.length_append, List.length_cons, List.length_nil]; omega) (by omega)
    obtain ⟨B2, hB2⟩ : ∃ B2, B2 = B ++ behind L := ⟨_, rfl⟩
    have HB2 := Lib.hid hB2
    have HT2 : Hid (T = B2 ++ behind (Script.numbers s.body)) := by show _ = _; rw [e0, hB2]
    have HB2L : Hid (B2.length + (behind (Script.numbers s.body)).length ≤ 1000000) := by show _ ≤ _; rw [hB2, List.length_append]; omega
    clear hli hB hX hB2 e0 e9 hns hBl hln
    go_wp2_with fail
    go_loopw [3, 5] (fun x i wr => ∃ j : Nat, j ≤ m ∧ i = .int .i64 j ∧ x = .string ⟨(B ++ behind (L.take j)).toArray⟩ ∧ Below W0.heap.size W0 wr) (fun _ i _ => m - (intOf i).toNat)
    case atStart => exact ⟨0, by omega, rfl, by rw [List.take_zero]; show _ = Value.string ⟨(B ++ []).toArray⟩; rw [List.append_nil], HB1.out⟩
    case round =>
      obtain ⟨j, hj, rfl, rfl, hb⟩ := hrel
      have HB := Lib.hid hb
      clear hb
      by_cases hjm : j < m
      · obtain ⟨y, hy⟩ : ∃ y, L[j]? = some y := ⟨L[j]'(by rw [HLM.out]; exact hjm), List.getElem?_eq_getElem _⟩
        have cy : wr.cell? ⟨w.heap.size, 2 + j, none⟩ = some (.int .i64 y) := HCN.out wr HB.out j y hjm hy
        have hsm : Script.small y = true := by
          have := HSM.out
          rw [List.all_eq_true] at this
          exact this y (List.mem_of_getElem? hy)
        have HDG := Lib.hid (fun (V : World) => digits_small hsm V)
        have e1 := behind_snoc hy
        have e2 := behind_take_le L (j + 1)
        have e3 := HBL.out
        have e4 : B ++ behind (L.take (j + 1)) = (B ++ behind (L.take j)) ++ [32] ++ Lib.itoa y := by rw [e1]; simp
        have e5 := congrArg List.length e4
        simp only [List.length_append, List.length_cons, List.length_nil] at e5
        obtain ⟨T0, hT0⟩ : ∃ T0, T0 = B ++ behind (L.take j) := ⟨_, rfl⟩
        obtain ⟨T1, hT1⟩ : ∃ T1, T1 = B ++ behind (L.take (j + 1)) := ⟨_, rfl⟩
        obtain ⟨M, hM⟩ : ∃ M, M = T0 ++ [32] := ⟨_, rfl⟩
        rw [← hT0] at e4 ⊢
        have hadd1 : ∀ V : World, (Op.stringOp .add ⟨T0.toArray⟩ ⟨#[32]⟩).run Tryd.prog V = .ok (.string ⟨M.toArray⟩) V := by
          rw [hM]
          exact fun V => run_string_add_lists _ T0 [32] (by rw [hT0, List.length_append]; omega) (by simp)
        have hadd2 : ∀ V : World, (Op.stringOp .add ⟨M.toArray⟩ ⟨(Lib.itoa y).toArray⟩).run Tryd.prog V = .ok (.string ⟨T1.toArray⟩) V := by
          rw [hT1, e4, ← hM]
          exact fun V => run_string_add_lists _ M (Lib.itoa y) (by rw [hM, List.length_append, hT0, List.length_append, List.length_cons, List.length_nil]; omega) (by omega)
        have HT1 := Lib.hid hT1
        clear e1 e2 e3 e4 e5 hT0 hT1 hM hy hsm
        generalize Lib.itoa y = Y at *
        go_wp2_with fail
        refine (HDG.out _).mono ?_
        rintro e w2 ⟨rfl, rfl⟩
        go_wp2_with fail
        go_roundw
        case rel => exact ⟨j + 1, by omega, by go_num, by rw [HT1.out], HB.out⟩
        case measure => simp [intOf]; omega
      · obtain rfl : m = j := by omega
        rw [List.take_of_length_le (by rw [HLM.out]; exact Nat.le_refl _)]
        rw [← HB2.out]
        have d0 : wr.cell? ⟨w.heap.size, 0, none⟩ = some (.int .i64 1) := HCC.out wr HB.out 0 _ rfl
        have d6 : wr.cell? ⟨w.heap.size, 6, none⟩ = some (.int .i64 s.body.sn) := HCC.out wr HB.out 6 _ rfl
        have d7 : wr.cell? ⟨w.heap.size, 7, none⟩ = some (.slice ta s.body.tn tc) := HCC.out wr HB.out 7 _ rfl
        have d8 : wr.cell? ⟨w.heap.size, 8, none⟩ = some (.slice pa s.body.pn pc) := HCC.out wr HB.out 8 _ rfl
        have d9 : wr.cell? ⟨w.heap.size, 9, none⟩ = some (.slice ka s.body.k.length kc) := HCC.out wr HB.out 9 _ rfl
        clear c0 c1 hadda haddb HCN HSM HBL HLM hLN
        generalize Script.numbers s.body = NB at *
        go_wp2_with fail
        refine (HBO.out _ (HBW.out _ HB.out)).mono ?_
        rintro e w4 ⟨v4, rfl, ho4, hb4⟩
        have HB4 := Lib.hid ((HBW.out _ HB.out).trans (hb4.mono (HBW.out _ HB.out).size))
        obtain ⟨a4, c4, rfl, g41, g42, t4⟩ := ho4.ints
        have HT4 := Lib.hid t4
        obtain ⟨q, hq⟩ : ∃ q, q = NB.length := ⟨_, rfl⟩
        have HQ := Lib.hid hq
        have HNQ : q ≤ 2000000 := by rw [hq]; exact HNL.out
        rw [← hq] at g41 ⊢
        clear hb4 ho4 t4 hq d0 d6 d7 d8 d9 HBO HWD HCC
        go_wp2_with fail
        go_loopw [3, 7] (fun x i W => ∃ j : Nat, j ≤ q ∧ i = .int .i64 j ∧ x = .string ⟨(B2 ++ behind (NB.take j)).toArray⟩ ∧ Below w4.heap.size w4 W) (fun _ i _ => q - (intOf i).toNat)
        case atStart => exact ⟨0, by omega, rfl, by rw [List.take_zero]; show _ = Value.string ⟨(B2 ++ []).toArray⟩; rw [List.append_nil], Below.refl _ _⟩
        case round =>
          rename_i W _
          obtain ⟨j, hj, rfl, rfl, hb⟩ := hrel
          have HB5 := Lib.hid hb
          clear hb
          by_cases hjq : j < q
          · obtain ⟨y, hy⟩ : ∃ y, NB[j]? = some y := ⟨NB[j]'(by rw [← HQ.out]; exact hjq), List.getElem?_eq_getElem _⟩
            obtain ⟨ga, oa, rfl, hca⟩ := HT4.out.at_ (by rw [← HQ.out]; omega)
            have hcx := (HB5.out.cell (p := ⟨ga, oa + j, none⟩) (lt_of_cell (hca j y hy))).trans (hca j y hy)
            have hsm : Script.small y = true := by
              have := HSB.out
              rw [List.all_eq_true] at this
              exact this y (List.mem_of_getElem? hy)
            have HDG := Lib.hid (fun (V : World) => digits_small hsm V)
            have e1 := behind_snoc hy
            have e2 := behind_take_le NB (j + 1)
            have e3 := HB2L.out
            have e4 : B2 ++ behind (NB.take (j + 1)) = (B2 ++ behind (NB.take j)) ++ [32] ++ Lib.itoa y := by rw [e1]; simp
            have e5 := congrArg List.length e4
            simp only [List.length_append, List.length_cons, List.length_nil] at e5
            obtain ⟨T0, hT0⟩ : ∃ T0, T0 = B2 ++ behind (NB.take j) := ⟨_, rfl⟩
            obtain ⟨T1, hT1⟩ : ∃ T1, T1 = B2 ++ behind (NB.take (j + 1)) := ⟨_, rfl⟩
            obtain ⟨M, hM⟩ : ∃ M, M = T0 ++ [32] := ⟨_, rfl⟩
            rw [← hT0] at e4 ⊢
            have hadd1 : ∀ V : World, (Op.stringOp .add ⟨T0.toArray⟩ ⟨#[32]⟩).run Tryd.prog V = .ok (.string ⟨M.toArray⟩) V := by
              rw [hM]
              exact fun V => run_string_add_lists _ T0 [32] (by rw [hT0, List.length_append]; omega) (by simp)
            have hadd2 : ∀ V : World, (Op.stringOp .add ⟨M.toArray⟩ ⟨(Lib.itoa y).toArray⟩).run Tryd.prog V = .ok (.string ⟨T1.toArray⟩) V := by
              rw [hT1, e4, ← hM]
              exact fun V => run_string_add_lists _ M (Lib.itoa y) (by rw [hM, List.length_append, hT0, List.length_append, List.length_cons, List.length_nil]; omega) (by omega)
            have HT1 := Lib.hid hT1
            clear e1 e2 e3 e4 e5 hT0 hT1 hM hy hsm hca
            generalize Lib.itoa y = Y at *
            go_wp2_with fail
            refine (HDG.out _).mono ?_
            rintro e w5 ⟨rfl, rfl⟩
            go_wp2_with fail
            go_roundw
            case rel => exact ⟨j + 1, by omega, by go_num, by rw [HT1.out], HB5.out⟩
            case measure => simp [intOf]; omega
          · obtain rfl : q = j := by omega
            rw [List.take_of_length_le (by rw [← HQ.out]; exact Nat.le_refl _), ← HT2.out]
            go_wp2_with fail
            go_ret
            exact ⟨rfl, HB4.out.trans (HB5.out.mono HB4.out.size)⟩
  · have hkb : (k == 1) = false := by rw [beq_eq_false_iff_ne]; exact hk1
    rw [if_neg hk1] at hns hli
    rw [if_neg hk1, List.nil_append, List.append_nil] at hli
    rw [List.append_nil] at hns
    have HSM := Lib.hid hns
    obtain ⟨B, hB⟩ : ∃ B, B = wd := ⟨_, rfl⟩
    rw [← hB] at hli ⊢
    have e9 := congrArg List.length hli
    rw [List.length_append] at e9
    have HBL : Hid (B.length + (behind L).length ≤ 1000000) := by show _ ≤ _; omega
    have HT2 := Lib.hid hli
    clear hli hB e9 hns hln
    go_wp2_with fail
    go_loopw [3, 5] (fun x i wr => ∃ j : Nat, j ≤ m ∧ i = .int .i64 j ∧ x = .string ⟨(B ++ behind (L.take j)).toArray⟩ ∧ Below W0.heap.size W0 wr) (fun _ i _ => m - (intOf i).toNat)
    case atStart => exact ⟨0, by omega, rfl, by rw [List.take_zero]; show _ = Value.string ⟨(B ++ []).toArray⟩; rw [List.append_nil], HB1.out⟩
    case round =>
      obtain ⟨j, hj, rfl, rfl, hb⟩ := hrel
      have HB := Lib.hid hb
      clear hb
      by_cases hjm : j < m
      · obtain ⟨y, hy⟩ : ∃ y, L[j]? = some y := ⟨L[j]'(by rw [HLM.out]; exact hjm), List.getElem?_eq_getElem _⟩
        have cy : wr.cell? ⟨w.heap.size, 2 + j, none⟩ = some (.int .i64 y) := HCN.out wr HB.out j y hjm hy
        have hsm : Script.small y = true := by
          have := HSM.out
          rw [List.all_eq_true] at this
          exact this y (List.mem_of_getElem? hy)
        have HDG := Lib.hid (fun (V : World) => digits_small hsm V)
        have e1 := behind_snoc hy
        have e2 := behind_take_le L (j + 1)
        have e3 := HBL.out
        have e4 : B ++ behind (L.take (j + 1)) = (B ++ behind (L.take j)) ++ [32] ++ Lib.itoa y := by rw [e1]; simp
        have e5 := congrArg List.length e4
        simp only [List.length_append, List.length_cons, List.length_nil] at e5
        obtain ⟨T0, hT0⟩ : ∃ T0, T0 = B ++ behind (L.take j) := ⟨_, rfl⟩
        obtain ⟨T1, hT1⟩ : ∃ T1, T1 = B ++ behind (L.take (j + 1)) := ⟨_, rfl⟩
        obtain ⟨M, hM⟩ : ∃ M, M = T0 ++ [32] := ⟨_, rfl⟩
        rw [← hT0] at e4 ⊢
        have hadd1 : ∀ V : World, (Op.stringOp .add ⟨T0.toArray⟩ ⟨#[32]⟩).run Tryd.prog V = .ok (.string ⟨M.toArray⟩) V := by
          rw [hM]
          exact fun V => run_string_add_lists _ T0 [32] (by rw [hT0, List.length_append]; omega) (by simp)
        have hadd2 : ∀ V : World, (Op.stringOp .add ⟨M.toArray⟩ ⟨(Lib.itoa y).toArray⟩).run Tryd.prog V = .ok (.string ⟨T1.toArray⟩) V := by
          rw [hT1, e4, ← hM]
          exact fun V => run_string_add_lists _ M (Lib.itoa y) (by rw [hM, List.length_append, hT0, List.length_append, List.length_cons, List.length_nil]; omega) (by omega)
        have HT1 := Lib.hid hT1
        clear e1 e2 e3 e4 e5 hT0 hT1 hM hy hsm
        generalize Lib.itoa y = Y at *
        go_wp2_with fail
        refine (HDG.out _).mono ?_
        rintro e w2 ⟨rfl, rfl⟩
        go_wp2_with fail
        go_roundw
        case rel => exact ⟨j + 1, by omega, by go_num, by rw [HT1.out], HB.out⟩
        case measure => simp [intOf]; omega
      · obtain rfl : m = j := by omega
        rw [List.take_of_length_le (by rw [HLM.out]; exact Nat.le_refl _)]
        rw [← HT2.out]
        have d0 : wr.cell? ⟨w.heap.size, 0, none⟩ = some (.int .i64 k) := HCC.out wr HB.out 0 _ rfl
        clear c0 c1 HCN HSM HBL HLM hLN
        go_wp2_with fail
        go_ret
        exact ⟨rfl, HBW.out _ HB.out⟩

theorem textR_le {l : List Script.Step} (hl : ∀ x ∈ l, (Script.line x).length ≤ 3510) : ∀ j, (Script.text (l.take j)).length ≤ 3511 * j
  | 0 => by simp [Script.text]
  | j + 1 => by
    have ih := textR_le hl j
    by_cases hj : j < l.length
    · have hj2 := hl _ (List.getElem_mem hj)
      rw [take_snoc (List.getElem?_eq_getElem hj), text_append, List.length_append]
      have e : (Script.text [l[j]]).length = (Script.line l[j]).length + 1 := by simp [Script.text]
      omega
    · rw [List.take_of_length_le (by omega)]
      rw [List.take_of_length_le (by omega)] at ih
      omega

set_option maxRecDepth 100000 in
set_option maxHeartbeats 4000000 in
theorem rtext_any (a : Option Addr) (n c : Nat) (l : List Script.Step) (w : World) (hn : l.length = n) (hn2 : n ≤ 1000000) (h : StepsAt w a l) (hl : ∀ x ∈ l, Script.right x = true → (Script.line x).length ≤ 3510) :
    Calls Tryd.prog 18 #[.slice a n c] w fun e w' => e = .returned (.tuple #[.string ⟨(textOf l).toArray⟩, .int .i64 (textErr l)]) ∧ Below w.heap.size w w' := by
  have HX := Lib.hid h
  have HN := Lib.hid hn
  have HL := Lib.hid hl
  obtain ⟨TX, hTX⟩ : ∃ TX, TX = textOf l := ⟨_, rfl⟩
  obtain ⟨EX, hEX⟩ : ∃ EX, EX = textErr l := ⟨_, rfl⟩
  rw [← hTX, ← hEX]
  have HTE : Hid ((rightAll l = true → TX = Script.text l ∧ EX = 0) ∧ (rightAll l = false → TX = [] ∧ EX = 3)) := by
    show _ ∧ _
    rw [hTX, hEX]
    unfold textOf textErr
    exact ⟨fun h => by rw [h]; exact ⟨rfl, rfl⟩, fun h => by rw [h]; exact ⟨rfl, rfl⟩⟩
  clear hTX hEX
  by_cases h200 : 200 < n
  · have e : rightAll l = false := by unfold rightAll; rw [hn, decide_eq_false (by omega)]; rfl
    obtain ⟨rfl, rfl⟩ := HTE.out.2 e
    clear e h hn hl HTE
    go_enter Tryd.func18, Tryd.ntmps18
    go_wp2_with fail
    go_ret2
    exact ⟨rfl, Below.refl _ _⟩
  · have h2 : n ≤ 200 := by omega
    have HRR : Hid (rightAll l = l.all Script.right) := by show _ = _; unfold rightAll; rw [hn, decide_eq_true h2]; rfl
    clear h hn hl h200 hn2
    go_enter Tryd.func18, Tryd.ntmps18
    go_wp2_with fail
    go_loopw [4, 5] (fun x i wr => ∃ j : Nat, j ≤ n ∧ i = .int .i64 j ∧ x = .string ⟨(Script.text (l.take j)).toArray⟩ ∧ (l.take j).all Script.right = true ∧ Below w.heap.size w wr) (fun _ i _ => n - (intOf i).toNat)
    case atStart => exact ⟨0, by omega, rfl, rfl, rfl, Below.refl _ _⟩
    case round =>
      obtain ⟨j, hj, rfl, rfl, hall, hb⟩ := hrel
      have HB := Lib.hid hb
      have HALL := Lib.hid hall
      clear hb hall
      by_cases hjn : j < n
      · obtain ⟨u, hu⟩ : ∃ u, l[j]? = some u := ⟨l[j]'(by rw [HN.out]; exact hjn), List.getElem?_eq_getElem _⟩
        obtain ⟨g, o, cs, rfl, hv, hc⟩ := HX.out.below HB.out j u hu
        have HR := Lib.hid (fun (V : World) (hV : Below wr.heap.size wr V) => rone_any u cs V (hv.below hV))
        have HTK := Lib.hid (take_snoc hu)
        have HMEM := Lib.hid (List.mem_of_getElem? hu)
        have HLI := Lib.hid (fun (hr : Script.right u = true) (hle : (Script.line u).length ≤ 1000000) (V : World) (hV : Below wr.heap.size wr V) => rline_any u cs V (hv.below hV) hr hle)
        obtain ⟨nm, n0, n1, n2, n3, ta, pa, ka, tc, pc, kc, -, -, rfl, -⟩ := hv
        unfold stepCells at HR HLI hc
        have HCC : Hid (∀ V : World, Below wr.heap.size wr V → (V.cell? ⟨g, o + j * 10, none⟩ = some (.int .i64 u.kind) ∧ V.cell? ⟨g, o + j * 10 + 1, none⟩ = some (.string nm) ∧ V.cell? ⟨g, o + j * 10 + 2, none⟩ = some (.int .i64 n0) ∧ V.cell? ⟨g, o + j * 10 + 3, none⟩ = some (.int .i64 n1) ∧ V.cell? ⟨g, o + j * 10 + 4, none⟩ = some (.int .i64 n2) ∧ V.cell? ⟨g, o + j * 10 + 5, none⟩ = some (.int .i64 n3) ∧ V.cell? ⟨g, o + j * 10 + 6, none⟩ = some (.int .i64 u.body.sn) ∧ V.cell? ⟨g, o + j * 10 + 7, none⟩ = some (.slice ta u.body.tn tc) ∧ V.cell? ⟨g, o + j * 10 + 8, none⟩ = some (.slice pa u.body.pn pc) ∧ V.cell? ⟨g, o + j * 10 + 9, none⟩ = some (.slice ka u.body.k.length kc))) := by
          intro V hV
          have hh : ∀ i y, #[Value.int .i64 u.kind, .string nm, .int .i64 n0, .int .i64 n1, .int .i64 n2, .int .i64 n3, .int .i64 u.body.sn, .slice ta u.body.tn tc, .slice pa u.body.pn pc, .slice ka u.body.k.length kc][i]? = some y → V.cell? ⟨g, o + (j * 10 + i), none⟩ = some y := fun i y hy => (hV.cell (p := ⟨g, o + (j * 10 + i), none⟩) (lt_of_cell (hc i y hy))).trans (hc i y hy)
          have g0 := hh 0 _ rfl
          have g1 := hh 1 _ rfl
          have g2 := hh 2 _ rfl
          have g3 := hh 3 _ rfl
          have g4 := hh 4 _ rfl
          have g5 := hh 5 _ rfl
          have g6 := hh 6 _ rfl
          have g7 := hh 7 _ rfl
          have g8 := hh 8 _ rfl
          have g9 := hh 9 _ rfl
          rw [Nat.add_zero] at g0
          simp only [← Nat.add_assoc] at g1 g2 g3 g4 g5 g6 g7 g8 g9
          exact ⟨g0, g1, g2, g3, g4, g5, g6, g7, g8, g9⟩
        obtain ⟨c0, c1, c2, c3, c4, c5, c6, c7, c8, c9⟩ := HCC.out wr (Below.refl _ _)
        have HUX := Lib.hid hu
        clear hc hu
        cases hru : Script.right u with
        | false =>
          rw [hru] at HR
          have HNO : Hid (rightAll l = false) := by
            show _ = _
            rw [HRR.out, List.all_eq_false]
            exact ⟨u, HMEM.out, by rw [hru]; decide⟩
          obtain ⟨rfl, rfl⟩ := HTE.out.2 HNO.out
          clear hru HLI HCC HTE HNO
          go_wp2_with fail
          refine (HR.out _ (Below.refl _ _)).mono ?_
          rintro e w1 ⟨rfl, hb1⟩
          have HB1 := Lib.hid (HB.out.trans (hb1.mono HB.out.size))
          clear hb1
          go_wp2_with fail
          go_ret2
          exact ⟨rfl, HB1.out⟩
        | true =>
          rw [hru] at HR
          have hlu := HL.out u HMEM.out hru
          have HLN := Lib.hid (HLI.out hru (by omega))
          have e1 : Script.text (l.take (j + 1)) = Script.text (l.take j) ++ Script.line u ++ [10] := by rw [HTK.out, text_append]; simp [Script.text]
          have e2 : (Script.text (l.take j)).length ≤ 3511 * j := by
            have := textR_le (l := l.take j) (fun x hx => HL.out x (List.mem_of_mem_take hx) (by have := HALL.out; rw [List.all_eq_true] at this; exact this x hx)) j
            rwa [List.take_take, Nat.min_self] at this
          have HALL1 : Hid ((l.take (j + 1)).all Script.right = true) := by show _ = _; rw [HTK.out, List.all_append, HALL.out]; simp [hru]
          obtain ⟨T0, hT0⟩ : ∃ T0, T0 = Script.text (l.take j) := ⟨_, rfl⟩
          obtain ⟨T1, hT1⟩ : ∃ T1, T1 = Script.text (l.take (j + 1)) := ⟨_, rfl⟩
          obtain ⟨U, hU⟩ : ∃ U, U = Script.line u := ⟨_, rfl⟩
          obtain ⟨M, hM⟩ : ∃ M, M = T0 ++ U := ⟨_, rfl⟩
          rw [← hT0] at e1 e2 ⊢
          rw [← hU] at hlu e1 HLN
          rw [← hT1] at e1
          have hadd1 : ∀ V : World, (Op.stringOp .add ⟨T0.toArray⟩ ⟨U.toArray⟩).run Tryd.prog V = .ok (.string ⟨M.toArray⟩) V := by
            rw [hM]
            exact fun V => run_string_add_lists _ T0 U (by omega) (by omega)
          have hadd2 : ∀ V : World, (Op.stringOp .add ⟨M.toArray⟩ ⟨#[10]⟩).run Tryd.prog V = .ok (.string ⟨T1.toArray⟩) V := by
            rw [e1, ← hM]
            exact fun V => run_string_add_lists _ M [10] (by rw [hM, List.length_append]; omega) (by simp)
          have HT1 := Lib.hid hT1
          clear hru HLI hlu e1 e2 hT0 hT1 hU hM
          go_wp2_with fail
          refine (HR.out _ (Below.refl _ _)).mono ?_
          rintro e w1 ⟨rfl, hb1⟩
          have HB1 := Lib.hid hb1
          obtain ⟨d0, d1, d2, d3, d4, d5, d6, d7, d8, d9⟩ := HCC.out w1 hb1
          clear hb1 c0 c1 c2 c3 c4 c5 c6 c7 c8 c9
          go_wp2_with fail
          refine (HLN.out _ HB1.out).mono ?_
          rintro e w2 ⟨rfl, hb2⟩
          have HB2 := Lib.hid (HB.out.trans ((HB1.out.trans (hb2.mono HB1.out.size)).mono HB.out.size))
          clear hb2
          go_wp2_with fail
          go_roundw
          case rel => exact ⟨j + 1, by omega, by go_num, by rw [HT1.out], HALL1.out, HB2.out⟩
          case measure => simp [intOf]; omega
      · obtain rfl : n = j := by omega
        have HYES : Hid (rightAll l = true) := by
          show _ = _
          rw [HRR.out]
          have := HALL.out
          rwa [List.take_of_length_le (by rw [HN.out]; exact Nat.le_refl _)] at this
        rw [List.take_of_length_le (by rw [HN.out]; exact Nat.le_refl _)]
        obtain ⟨e1, rfl⟩ := HTE.out.1 HYES.out
        rw [← e1]
        clear e1 HTE HYES
        go_wp2_with fail
        go_ret2
        exact ⟨rfl, HB.out⟩

end Go.Proofs.YtjcffbhgjmaicaaDoor
