/-
  Layer 55 (script), the document's answer: One.
-/
import Derived.Test.YtjcffbhgjmaicaaDoorScrRefA
import Derived.Test.YtjcffbhgjmaicaaDoorScrRBody
namespace Go.Proofs.YtjcffbhgjmaicaaDoor
open Go.RowKit
open Script

/-- Is the i-th of four numbers as it should be? -/
def okN (m i : Nat) (x : Int) : Bool := Script.small x && (decide (i < m) || decide (x = 0))

theorem okN_all {l : List Int} {m : Nat} (hl : l.length = 4) (h : ∀ i x, i < 4 → l[i]? = some x → okN m i x = true) : l.all Script.small = true ∧ (l.drop m).all (fun y => decide (y = 0)) = true := by
  have hs : ∀ i x, l[i]? = some x → Script.small x = true ∧ (m ≤ i → x = 0) := by
    intro i x hx
    have hi : i < 4 := by rw [← hl]; exact (List.getElem?_eq_some_iff.1 hx).1
    have := h i x hi hx
    unfold okN at this
    rw [Bool.and_eq_true, Bool.or_eq_true, decide_eq_true_iff, decide_eq_true_iff] at this
    exact ⟨this.1, fun hm => by rcases this.2 with h2 | h2; omega; exact h2⟩
  refine ⟨List.all_eq_true.2 fun x hx => ?_, List.all_eq_true.2 fun x hx => ?_⟩
  · obtain ⟨i, hi⟩ := List.getElem?_of_mem hx
    exact (hs i x hi).1
  · obtain ⟨i, hi⟩ := List.getElem?_of_mem hx
    rw [List.getElem?_drop] at hi
    rw [decide_eq_true_iff]
    exact (hs _ x hi).2 (by omega)

theorem okN_not {l : List Int} {m i : Nat} {x : Int} (hx : l[i]? = some x) (h : okN m i x = false) : (l.all Script.small && (l.drop m).all (fun y => decide (y = 0))) = false := by
  cases h1 : l.all Script.small with
  | false => rfl
  | true =>
    rw [Bool.true_and]
    rw [List.all_eq_true] at h1
    have hs := h1 x (List.mem_of_getElem? hx)
    unfold okN at h
    rw [hs, Bool.true_and, Bool.or_eq_false_iff, decide_eq_false_iff_not, decide_eq_false_iff_not] at h
    rw [Bool.eq_false_iff]
    intro hall
    rw [List.all_eq_true] at hall
    have := hall x (List.mem_iff_getElem?.2 ⟨i - m, by rw [List.getElem?_drop, show m + (i - m) = i from by omega]; exact hx⟩)
    rw [decide_eq_true_iff] at this
    exact h.2 this

theorem word_ne {k : Int} {x : List UInt8 × Nat} (h : Script.shape k = some x) : x.1 ≠ [] := (shapes_plain _ (shape_mem h).1).2

set_option maxRecDepth 100000 in
set_option maxHeartbeats 4000000 in
theorem rone_any (s : Script.Step) (cs : Array Value) (w : World) (hv : StepV w s cs) :
    Calls Tryd.prog 27 #[.agg cs] w fun e w' => e = .returned (.bool (Script.right s)) ∧ Below w.heap.size w w' := by
  obtain ⟨nm, n0, n1, n2, n3, ta, pa, ka, tc, pc, kc, e1, e2, rfl, h4, h5, h6, h7, h8⟩ := hv
  unfold stepCells
  obtain ⟨R, hR⟩ : ∃ R, R = Script.right s := ⟨_, rfl⟩
  have HR := Lib.hid hR
  rw [← hR]
  clear hR
  cases hs : Script.shape s.kind with
  | none =>
    have ew : wordOf s.kind = [] := by unfold wordOf; rw [hs]
    have em : manyOf s.kind = 0 := by unfold manyOf; rw [hs]
    have HX : Hid (R = false) := by show _ = _; rw [HR.out]; unfold Script.right; rw [hs]
    have HWD := Lib.hid (fun (V : World) => word_any s.kind V)
    rw [ew, em] at HWD
    clear ew em hs HR e1 e2 h4
    generalize s.kind = k at *
    go_enter Tryd.func27, Tryd.ntmps27
    go_wp2_with fail
    refine (HWD.out _).mono ?_
    rintro e w1 ⟨rfl, hb1⟩
    have HB1 := Lib.hid (((Below.refl w.heap.size w).alloc (Nat.le_refl _) (.cells #[.int .i64 k, .string nm, .int .i64 n0, .int .i64 n1, .int .i64 n2, .int .i64 n3, .int .i64 s.body.sn, .slice ta s.body.tn tc, .slice pa s.body.pn pc, .slice ka s.body.k.length kc] 59)).trans (hb1.mono (by simp)))
    clear hb1
    go_wp2_with fail
    go_ret
    exact ⟨by rw [HX.out]; rfl, HB1.out⟩
  | some x =>
    obtain ⟨wd, m⟩ := x
    have hm4 : m ≤ 4 := shapes_many _ (shape_mem hs).1
    have ew : wordOf s.kind = wd := by unfold wordOf; rw [hs]
    have em : manyOf s.kind = m := by unfold manyOf; rw [hs]
    have hne : wd ≠ [] := word_ne hs
    have HWD := Lib.hid (fun (V : World) => word_any s.kind V)
    rw [ew, em] at HWD
    obtain ⟨D, hD⟩ : ∃ D, D = ByteArray.mk wd.toArray := ⟨_, rfl⟩
    have hbe : D.toList.isEmpty = false := by
      rw [hD, bytes_toList]
      cases wd with
      | nil => exact absurd rfl hne
      | cons c l => rfl
    rw [← hD] at HWD
    have HRT : Hid (R = ((s.n.all Script.small && (s.n.drop m).all (fun y => decide (y = 0))) && (if s.kind = 1 then Script.named s.name && Script.fits s.body else decide (s.name = []) && Script.empty s.body))) := by
      show _ = _; rw [HR.out]; unfold Script.right; rw [hs]
    clear hs ew em hne hD HR
    generalize s.kind = k at *
    go_enter Tryd.func27, Tryd.ntmps27
    go_wp2_with fail
    refine (HWD.out _).mono ?_
    rintro e w1 ⟨rfl, hb1⟩
    have hw0 := (Below.refl w.heap.size w).alloc (Nat.le_refl _) (.cells #[.int .i64 k, .string nm, .int .i64 n0, .int .i64 n1, .int .i64 n2, .int .i64 n3, .int .i64 s.body.sn, .slice ta s.body.tn tc, .slice pa s.body.pn pc, .slice ka s.body.k.length kc] 59)
    have hcw : ∀ j u, #[Value.int .i64 k, .string nm, .int .i64 n0, .int .i64 n1, .int .i64 n2, .int .i64 n3, .int .i64 s.body.sn, .slice ta s.body.tn tc, .slice pa s.body.pn pc, .slice ka s.body.k.length kc][j]? = some u → (w.alloc (.cells #[.int .i64 k, .string nm, .int .i64 n0, .int .i64 n1, .int .i64 n2, .int .i64 n3, .int .i64 s.body.sn, .slice ta s.body.tn tc, .slice pa s.body.pn pc, .slice ka s.body.k.length kc] 59)).cell? ⟨w.heap.size, j, none⟩ = some u := fun j u hj => by rw [World.cell?_alloc_new]; exact hj
    generalize w.alloc (.cells #[.int .i64 k, .string nm, .int .i64 n0, .int .i64 n1, .int .i64 n2, .int .i64 n3, .int .i64 s.body.sn, .slice ta s.body.tn tc, .slice pa s.body.pn pc, .slice ka s.body.k.length kc] 59) = W0 at *
    have HW0 := Lib.hid hw0
    have HB1 := Lib.hid hb1
    have HBW := Lib.hid (fun (V : World) (hV : Below W0.heap.size W0 V) => hw0.trans (hV.mono hw0.size))
    have HCC := Lib.hid (fun (V : World) (hV : Below W0.heap.size W0 V) j u hj => (hV.cell (p := ⟨w.heap.size, j, none⟩) (lt_of_cell (hcw j u hj))).trans (hcw j u hj))
    clear hw0 hcw hb1
    go_wp2_with fail
    go_loopw [5] (fun i wr => ∃ j : Nat, j ≤ 4 ∧ i = .int .i64 j ∧ Below W0.heap.size W0 wr ∧ ∀ i x, i < j → s.n[i]? = some x → okN m i x = true) (fun i _ => 4 - (intOf i).toNat)
    case atStart => exact ⟨0, by omega, rfl, HB1.out, fun i x hi => by omega⟩
    case round =>
      obtain ⟨j, hj, rfl, hb, hok⟩ := hrel
      have HB := Lib.hid hb
      have HOK := Lib.hid hok
      clear hb hok
      by_cases hj4 : j < 4
      · obtain ⟨y, hy⟩ : ∃ y, s.n[j]? = some y := by rw [e2]; rcases (show j = 0 ∨ j = 1 ∨ j = 2 ∨ j = 3 by omega) with rfl | rfl | rfl | rfl <;> exact ⟨_, rfl⟩
        have HY := Lib.hid hy
        have cy : wr.cell? ⟨w.heap.size, 2 + j, none⟩ = some (.int .i64 y) := by
          refine HCC.out wr HB.out (2 + j) _ ?_
          rw [e2] at hy
          rcases (show j = 0 ∨ j = 1 ∨ j = 2 ∨ j = 3 by omega) with rfl | rfl | rfl | rfl <;> (simp at hy; subst hy; rfl)
        have HIN := Lib.hid (fun (V : World) => in_any y V)
        have HBAD : Hid (okN m j y = false → R = false) := fun h => by rw [HRT.out, okN_not HY.out h]; rfl
        clear hy
        cases hsm : Script.small y with
        | false =>
          rw [hsm] at HIN
          have HX := Lib.hid (HBAD.out (by unfold okN; rw [hsm]; rfl))
          clear hsm
          go_wp2_with fail
          refine (HIN.out _).mono ?_
          rintro e w2 ⟨rfl, rfl⟩
          go_wp2_with fail
          go_ret
          exact ⟨by rw [HX.out]; rfl, HBW.out _ HB.out⟩
        | true =>
          rw [hsm] at HIN
          by_cases hjm : j < m
          · have HGO : Hid (okN m j y = true) := by show _ = _; unfold okN; rw [hsm, decide_eq_true hjm]; rfl
            clear hsm
            go_wp2_with fail
            refine (HIN.out _).mono ?_
            rintro e w2 ⟨rfl, rfl⟩
            go_wp2_with fail
            go_roundw
            case rel =>
              refine ⟨j + 1, by omega, by go_num, HB.out, fun i x hi hx => ?_⟩
              rcases Nat.lt_or_ge i j with hlt | hge
              · exact HOK.out i x hlt hx
              · obtain rfl : i = j := by omega
                rw [HY.out] at hx
                injection hx with hx
                rw [← hx]
                exact HGO.out
            case measure => simp [intOf]; omega
          · by_cases hy0 : y = 0
            · subst hy0
              have HGO : Hid (okN m j 0 = true) := by show _ = _; unfold okN; simp; decide
              clear hsm
              go_wp2_with fail
              refine (HIN.out _).mono ?_
              rintro e w2 ⟨rfl, rfl⟩
              go_wp2_with fail
              go_roundw
              case rel =>
                refine ⟨j + 1, by omega, by go_num, HB.out, fun i x hi hx => ?_⟩
                rcases Nat.lt_or_ge i j with hlt | hge
                · exact HOK.out i x hlt hx
                · obtain rfl : i = j := by omega
                  rw [HY.out] at hx
                  injection hx with hx
                  rw [← hx]
                  exact HGO.out
              case measure => simp [intOf]; omega
            · have HX := Lib.hid (HBAD.out (by unfold okN; rw [hsm, decide_eq_false hjm, decide_eq_false hy0]; rfl))
              clear hsm
              go_wp2_with fail
              refine (HIN.out _).mono ?_
              rintro e w2 ⟨rfl, rfl⟩
              go_wp2_with fail
              go_ret
              exact ⟨by rw [HX.out]; rfl, HBW.out _ HB.out⟩
      · obtain rfl : j = 4 := by omega
        obtain ⟨hn1, hn2⟩ := okN_all (m := m) (by rw [e2]; rfl) HOK.out
        rw [hn1, hn2, Bool.true_and, Bool.true_and] at HRT
        have c6 : wr.cell? ⟨w.heap.size, 6, none⟩ = some (.int .i64 s.body.sn) := HCC.out wr HB.out 6 _ rfl
        have c7 : wr.cell? ⟨w.heap.size, 7, none⟩ = some (.slice ta s.body.tn tc) := HCC.out wr HB.out 7 _ rfl
        have c8 : wr.cell? ⟨w.heap.size, 8, none⟩ = some (.slice pa s.body.pn pc) := HCC.out wr HB.out 8 _ rfl
        have c9 : wr.cell? ⟨w.heap.size, 9, none⟩ = some (.slice ka s.body.k.length kc) := HCC.out wr HB.out 9 _ rfl
        have hw2 := (Below.refl wr.heap.size wr).alloc (Nat.le_refl _) (.cells #[.int .i64 s.body.sn, .slice ta s.body.tn tc, .slice pa s.body.pn pc, .slice ka s.body.k.length kc] 48)
        have d0 : (wr.alloc (.cells #[.int .i64 s.body.sn, .slice ta s.body.tn tc, .slice pa s.body.pn pc, .slice ka s.body.k.length kc] 48)).cell? ⟨w.heap.size, 0, none⟩ = some (.int .i64 k) := HCC.out _ (HB.out.trans (hw2.mono HB.out.size)) 0 _ rfl
        have d1 : (wr.alloc (.cells #[.int .i64 s.body.sn, .slice ta s.body.tn tc, .slice pa s.body.pn pc, .slice ka s.body.k.length kc] 48)).cell? ⟨w.heap.size, 1, none⟩ = some (.string nm) := HCC.out _ (HB.out.trans (hw2.mono HB.out.size)) 1 _ rfl
        have b0 : (wr.alloc (.cells #[.int .i64 s.body.sn, .slice ta s.body.tn tc, .slice pa s.body.pn pc, .slice ka s.body.k.length kc] 48)).cell? ⟨wr.heap.size, 0, none⟩ = some (.int .i64 s.body.sn) := by rw [World.cell?_alloc_new]; rfl
        have b1 : (wr.alloc (.cells #[.int .i64 s.body.sn, .slice ta s.body.tn tc, .slice pa s.body.pn pc, .slice ka s.body.k.length kc] 48)).cell? ⟨wr.heap.size, 1, none⟩ = some (.slice ta s.body.tn tc) := by rw [World.cell?_alloc_new]; rfl
        have b2 : (wr.alloc (.cells #[.int .i64 s.body.sn, .slice ta s.body.tn tc, .slice pa s.body.pn pc, .slice ka s.body.k.length kc] 48)).cell? ⟨wr.heap.size, 2, none⟩ = some (.slice pa s.body.pn pc) := by rw [World.cell?_alloc_new]; rfl
        have b3 : (wr.alloc (.cells #[.int .i64 s.body.sn, .slice ta s.body.tn tc, .slice pa s.body.pn pc, .slice ka s.body.k.length kc] 48)).cell? ⟨wr.heap.size, 3, none⟩ = some (.slice ka s.body.k.length kc) := by rw [World.cell?_alloc_new]; rfl
        have HW2 := Lib.hid (HBW.out _ (HB.out.trans (hw2.mono HB.out.size)))
        clear hw2 hn1 hn2 HOK
        by_cases hk1 : k = 1
        · subst hk1
          rw [if_pos rfl] at HRT
          have hnm : nm = ⟨⟨s.name⟩⟩ := by
            rw [e1]
          have HNM := Lib.hid (fun (V : World) => name_any s.name V (by rw [e1, Array.length_toList]; exact h8))
          rw [← hnm] at HNM
          have HBO := Lib.hid (fun (V : World) (hV : Below w.heap.size w V) => rbody_any s.body ta pa ka tc pc kc V (h4.below hV) h5 h6 h7)
          have hft : Script.fits s.body = (decide (0 ≤ s.body.sn) && decide (s.body.sn ≤ 4096) && decide ((s.body.pn : Int) = s.body.sn) && decide (s.body.tn ≤ 8192) && decide (s.body.k.length ≤ 24576) && (Script.numbers s.body).all Script.small) := rfl
          rw [hft] at HRT
          have hnl : (Script.numbers s.body).length ≤ 2000000 := by
            unfold Script.numbers
            simp only [List.length_cons, List.length_append]
            have := h4.tl; have := h4.pl; omega
          have HNL := Lib.hid hnl
          clear hft hnl h4 hnm
          generalize Script.numbers s.body = NB at *
          generalize s.body.sn = sn at *
          generalize s.body.tn = tn at *
          generalize s.body.pn = pn at *
          generalize s.body.k.length = kl at *
          cases hnd : Script.named s.name with
          | false =>
            rw [hnd] at HNM HRT
            clear hnd
            go_wp2_with fail
            refine (HNM.out _).mono ?_
            rintro e w3 ⟨rfl, rfl⟩
            go_wp2_with fail
            go_ret
            exact ⟨by rw [HRT.out]; rfl, HW2.out⟩
          | true =>
            rw [hnd, Bool.true_and] at HRT
            rw [hnd] at HNM
            clear hnd
            by_cases q1 : 0 ≤ sn
            · have i1 : ¬ sn < 0 := by omega
              by_cases q2 : sn ≤ 4096
              · have i2 : ¬ 4096 < sn := by omega
                by_cases q3 : (pn : Int) = sn
                · subst q3
                  by_cases q4 : tn ≤ 8192
                  · have i4 : ¬ (8192 : Int) < (tn : Int) := by omega
                    by_cases q5 : kl ≤ 24576
                    · have i5 : ¬ (24576 : Int) < (kl : Int) := by omega
                      rw [decide_eq_true q1, decide_eq_true q2, decide_eq_true (show (pn : Int) = pn from rfl), decide_eq_true q4, decide_eq_true q5] at HRT
                      simp only [Bool.true_and] at HRT
                      clear q1 q2 q4 q5
                      go_wp2_with fail
                      refine (HNM.out _).mono ?_
                      rintro e w3 ⟨rfl, rfl⟩
                      go_wp2_with fail
                      refine (HBO.out _ HW2.out).mono ?_
                      rintro e w4 ⟨v4, rfl, ho4, hb4⟩
                      have HB4 := Lib.hid (HW2.out.trans (hb4.mono HW2.out.size))
                      obtain ⟨a4, c4, rfl, g41, g42, t4⟩ := ho4.ints
                      have HT4 := Lib.hid t4
                      obtain ⟨q, hq⟩ : ∃ q, q = NB.length := ⟨_, rfl⟩
                      have HQ := Lib.hid hq
                      have HNQ : Hid (q ≤ 2000000) := by show _ ≤ _; rw [hq]; exact HNL.out
                      rw [← hq] at g41 ⊢
                      clear hb4 ho4 t4 hq d0 d1 b0 b1 b2 b3 c6 c7 c8 c9 HNM HBO HWD HCC
                      generalize hWW : wr.alloc (.cells #[.int .i64 (pn : Int), .slice ta tn tc, .slice pa pn pc, .slice ka kl kc] 48) = WW at *
                      clear hWW
                      go_wp2_with fail
                      go_loopw [8] (fun i W => ∃ j : Nat, j ≤ q ∧ i = .int .i64 j ∧ Below w4.heap.size w4 W ∧ (NB.take j).all Script.small = true) (fun i _ => q - (intOf i).toNat)
                      case atStart => exact ⟨0, by omega, rfl, Below.refl _ _, rfl⟩
                      case round =>
                        rename_i W _
                        obtain ⟨j, hj, rfl, hb, hok⟩ := hrel
                        have HB5 := Lib.hid hb
                        have HOK := Lib.hid hok
                        have hq2 := HNQ.out
                        clear hb hok
                        by_cases hjq : j < q
                        · obtain ⟨x, hx⟩ : ∃ x, NB[j]? = some x := ⟨NB[j]'(by rw [← HQ.out]; exact hjq), List.getElem?_eq_getElem _⟩
                          obtain ⟨ga, oa, rfl, hca⟩ := HT4.out.at_ (by rw [← HQ.out]; omega)
                          have hcx := (HB5.out.cell (p := ⟨ga, oa + j, none⟩) (lt_of_cell (hca j x hx))).trans (hca j x hx)
                          have HX := Lib.hid hx
                          have HIN := Lib.hid (fun (V : World) => in_any x V)
                          clear hca hx
                          cases hsm : Script.small x with
                          | true =>
                            rw [hsm] at HIN
                            have HSM := Lib.hid hsm
                            clear hsm
                            go_wp2_with fail
                            refine (HIN.out _).mono ?_
                            rintro e w6 ⟨rfl, rfl⟩
                            go_wp2_with fail
                            go_roundw
                            case rel => exact ⟨j + 1, by omega, by go_num, HB5.out, by rw [take_snoc HX.out, List.all_append, HOK.out]; simp [HSM.out]⟩
                            case measure => simp [intOf]; omega
                          | false =>
                            rw [hsm] at HIN
                            have HNO : Hid (NB.all Script.small = false) := by
                              show _ = _
                              rw [List.all_eq_false]
                              exact ⟨x, List.mem_of_getElem? HX.out, by rw [hsm]; decide⟩
                            clear hsm
                            go_wp2_with fail
                            refine (HIN.out _).mono ?_
                            rintro e w6 ⟨rfl, rfl⟩
                            go_wp2_with fail
                            go_ret
                            exact ⟨by rw [HRT.out, HNO.out]; rfl, HB4.out.trans (HB5.out.mono HB4.out.size)⟩
                        · obtain rfl : j = q := by omega
                          have HYES : Hid (NB.all Script.small = true) := by
                            show _ = _
                            have := HOK.out
                            rw [List.take_of_length_le (by rw [← HQ.out]; exact Nat.le_refl _)] at this
                            exact this
                          go_wp2_with fail
                          go_ret
                          exact ⟨by rw [HRT.out, HYES.out]; rfl, HB4.out.trans (HB5.out.mono HB4.out.size)⟩
                    · have i5 : (24576 : Int) < (kl : Int) := by omega
                      rw [decide_eq_true q1, decide_eq_true q2, decide_eq_true (show (pn : Int) = pn from rfl), decide_eq_true q4, decide_eq_false q5] at HRT
                      clear q1 q2 q4 q5
                      go_wp2_with fail
                      refine (HNM.out _).mono ?_
                      rintro e w3 ⟨rfl, rfl⟩
                      go_wp2_with fail
                      go_ret
                      exact ⟨by rw [HRT.out]; rfl, HW2.out⟩
                  · have i4 : (8192 : Int) < (tn : Int) := by omega
                    rw [decide_eq_true q1, decide_eq_true q2, decide_eq_true (show (pn : Int) = pn from rfl), decide_eq_false q4] at HRT
                    clear q1 q2 q4
                    go_wp2_with fail
                    refine (HNM.out _).mono ?_
                    rintro e w3 ⟨rfl, rfl⟩
                    go_wp2_with fail
                    go_ret
                    exact ⟨by rw [HRT.out]; rfl, HW2.out⟩
                · have i3 : ¬ (pn : Int) = sn := q3
                  rw [decide_eq_true q1, decide_eq_true q2, decide_eq_false q3] at HRT
                  clear q1 q2 q3
                  go_wp2_with fail
                  refine (HNM.out _).mono ?_
                  rintro e w3 ⟨rfl, rfl⟩
                  go_wp2_with fail
                  go_ret
                  exact ⟨by rw [HRT.out]; rfl, HW2.out⟩
              · have i2 : 4096 < sn := by omega
                rw [decide_eq_true q1, decide_eq_false q2] at HRT
                clear q1 q2
                go_wp2_with fail
                refine (HNM.out _).mono ?_
                rintro e w3 ⟨rfl, rfl⟩
                go_wp2_with fail
                go_ret
                exact ⟨by rw [HRT.out]; rfl, HW2.out⟩
            · have i1 : sn < 0 := by omega
              rw [decide_eq_false q1] at HRT
              clear q1
              go_wp2_with fail
              refine (HNM.out _).mono ?_
              rintro e w3 ⟨rfl, rfl⟩
              go_wp2_with fail
              go_ret
              exact ⟨by rw [HRT.out]; rfl, HW2.out⟩
        · rw [if_neg hk1] at HRT
          have hkb : (k == 1) = false := by rw [beq_eq_false_iff_ne]; exact hk1
          have hem : Hid (Script.empty s.body = (decide (s.body.sn = 0) && decide (s.body.pn + s.body.tn + s.body.k.length = 0))) := rfl
          by_cases q1 : nm = ⟨#[]⟩
          · have hnl : s.name = [] := by rw [e1, q1]
            have hni : nm.toList.isEmpty = true := by rw [q1, bytes_toList]; rfl
            clear q1
            rw [decide_eq_true hnl, Bool.true_and, hem.out] at HRT
            generalize s.body.sn = sn at *
            generalize s.body.tn = tn at *
            generalize s.body.pn = pn at *
            generalize s.body.k.length = kl at *
            by_cases q2 : sn = 0
            · rw [decide_eq_true q2, Bool.true_and] at HRT
              have i2 : (sn == 0) = true := by rw [beq_iff_eq]; exact q2
              by_cases q3 : tn = 0
              · have i3 : ((tn : Int) == 0) = true := by rw [beq_iff_eq]; omega
                by_cases q4 : pn = 0
                · have i4 : ((pn : Int) == 0) = true := by rw [beq_iff_eq]; omega
                  by_cases q5 : kl = 0
                  · have i5 : ((kl : Int) == 0) = true := by rw [beq_iff_eq]; omega
                    rw [decide_eq_true (by omega)] at HRT
                    clear q2 q3 q4 q5
                    go_wp2_with fail
                    go_ret
                    exact ⟨by rw [HRT.out]; rfl, HW2.out⟩
                  · rw [decide_eq_false (by omega)] at HRT
                    have i5 : ((kl : Int) == 0) = false := by rw [beq_eq_false_iff_ne]; omega
                    clear q2 q3 q4 q5
                    go_wp2_with fail
                    go_ret
                    exact ⟨by rw [HRT.out]; rfl, HW2.out⟩
                · rw [decide_eq_false (by omega)] at HRT
                  have i4 : ((pn : Int) == 0) = false := by rw [beq_eq_false_iff_ne]; omega
                  clear q2 q3 q4
                  go_wp2_with fail
                  go_ret
                  exact ⟨by rw [HRT.out]; rfl, HW2.out⟩
              · rw [decide_eq_false (by omega)] at HRT
                have i3 : ((tn : Int) == 0) = false := by rw [beq_eq_false_iff_ne]; omega
                clear q2 q3
                go_wp2_with fail
                go_ret
                exact ⟨by rw [HRT.out]; rfl, HW2.out⟩
            · rw [decide_eq_false q2, Bool.false_and] at HRT
              have i2 : (sn == 0) = false := by rw [beq_eq_false_iff_ne]; exact q2
              clear q2
              go_wp2_with fail
              go_ret
              exact ⟨by rw [HRT.out]; rfl, HW2.out⟩
          · have hnl : ¬ s.name = [] := by
              rw [e1]
              intro h
              apply q1
              obtain ⟨⟨x⟩⟩ := nm
              simp at h
              rw [h]
            have hni : nm.toList.isEmpty = false := by
              obtain ⟨⟨x⟩⟩ := nm
              rw [bytes_toList]
              cases x with
              | nil => exact absurd rfl q1
              | cons c l => rfl
            rw [decide_eq_false hnl, Bool.false_and] at HRT
            go_wp2_with fail
            go_ret
            exact ⟨by rw [HRT.out]; rfl, HW2.out⟩

end Go.Proofs.YtjcffbhgjmaicaaDoor
