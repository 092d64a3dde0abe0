/-
  Layer 55 (script), the document's answer: Read, walked.
-/
import Derived.Test.YtjcffbhgjmaicaaDoorScrRefJ
namespace Go.Proofs.YtjcffbhgjmaicaaDoor
open Go.RowKit
open Script
set_option linter.unusedVariables false

theorem splitB_count : ∀ (l : List UInt8), (splitB l).length ≤ l.length + 1
  | [] => by simp [splitB]
  | c :: r => by
    have ih := splitB_count r
    unfold splitB
    split
    · rw [List.length_cons, List.length_cons]; omega
    · split
      · rename_i hr
        exact absurd hr (splitB_ne r)
      · rename_i v vs hr
        rw [hr] at ih
        rw [List.length_cons] at ih ⊢
        rw [List.length_cons]; omega

theorem aside_below {A : Nat} {W V V' : World} (h : Aside A W V) (hb : Below V.heap.size V V') (hs : W.heap.size ≤ V.heap.size) : Aside A W V' := fun k h1 h2 => (hb.block k (by omega)).trans (h k h1 h2)

set_option maxRecDepth 100000 in
set_option maxHeartbeats 8000000 in
theorem rread_any (l : List UInt8) (w : World) (hl : l.length ≤ 2000) :
    Calls Tryd.prog 22 #[.string ⟨⟨l⟩⟩] w fun e w' => RReadRes w w' (readOf l) e ∧ Below w.heap.size w w' := by
  have HCAND := Lib.hid (readOf_candR l)
  have hwn := splitB_count l
  have HWB : Hid (∀ x ∈ splitB l, x.length ≤ 2000) := fun x hx => Nat.le_trans (splitB_le l x hx) hl
  have hne := splitB_ne l
  have HAL := Lib.hid ((Below.refl w.heap.size w).alloc (Nat.le_refl _) (.cells #[.int .i64 0, .string ⟨#[]⟩, .int .i64 0, .int .i64 0, .int .i64 0, .int .i64 0, .int .i64 0, .slice none 0 0, .slice none 0 0, .slice none 0 0] 59))
  have HA0 : Hid ((w.alloc (.cells #[.int .i64 0, .string ⟨#[]⟩, .int .i64 0, .int .i64 0, .int .i64 0, .int .i64 0, .int .i64 0, .slice none 0 0, .slice none 0 0, .slice none 0 0] 59)).heap[w.heap.size]? = some (.cells #[.int .i64 0, .string ⟨#[]⟩, .int .i64 0, .int .i64 0, .int .i64 0, .int .i64 0, .int .i64 0, .slice none 0 0, .slice none 0 0, .slice none 0 0] 59 (0, 0))) := heap_alloc_new _ _
  have HWS := Lib.hid (words_any l (w.alloc (.cells #[.int .i64 0, .string ⟨#[]⟩, .int .i64 0, .int .i64 0, .int .i64 0, .int .i64 0, .int .i64 0, .slice none 0 0, .slice none 0 0, .slice none 0 0] 59)) (by omega))
  obtain ⟨W, hW⟩ : ∃ W, W = splitB l := ⟨_, rfl⟩
  rw [← hW] at HCAND hwn HWB hne HWS
  clear hW
  rcases W with _ | ⟨w0, ws⟩
  · exact absurd rfl hne
  obtain ⟨n, hn⟩ : ∃ n, n = (w0 :: ws).length := ⟨_, rfl⟩
  have HN := Lib.hid hn
  rw [← hn] at hwn
  have hn1 : 1 ≤ n := by rw [hn, List.length_cons]; omega
  obtain ⟨S0, hS0⟩ : ∃ S0, S0 = ByteArray.mk ⟨w0⟩ := ⟨_, rfl⟩
  have HS0 := Lib.hid hS0
  clear hne hn hS0
  go_enter Tryd.func22, Tryd.ntmps22
  go_wp2_with fail
  refine HWS.out.mono ?_
  rintro e w1 ⟨v1, rfl, ho1, hb1⟩
  obtain ⟨a1, cp1, rfl, g11, g12, hs1⟩ := ho1.strs
  obtain ⟨b1, o1, rfl, hcs⟩ := hs1.at_ (by simp)
  have HCS := Lib.hid hcs
  have hc0 := hcs 0 ⟨⟨w0⟩⟩ rfl
  rw [Nat.add_zero, ← HS0.out] at hc0
  have HC0 := Lib.hid (fun (V : World) (hV : Below w1.heap.size w1 V) => (hV.cell (lt_of_cell hc0)).trans hc0)
  have HLT : Hid (w.heap.size < w1.heap.size) := by have := hb1.size; rw [World.size_alloc] at this; show _ < _; omega
  have HAV : Hid (∀ V : World, Below w1.heap.size w1 V → V.heap[w.heap.size]? = some (.cells #[.int .i64 0, .string ⟨#[]⟩, .int .i64 0, .int .i64 0, .int .i64 0, .int .i64 0, .int .i64 0, .slice none 0 0, .slice none 0 0, .slice none 0 0] 59 (0, 0))) := fun V hV => (hV.block _ HLT.out).trans ((hb1.block _ (by rw [World.size_alloc]; omega)).trans HA0.out)
  have HB1 : Hid (Below w.heap.size w w1) := HAL.out.trans (hb1.mono (by rw [World.size_alloc]; omega))
  have HBB := Lib.hid (fun (V : World) (hV : Below w1.heap.size w1 V) => HB1.out.trans (hV.mono HB1.out.size))
  rw [← HN.out] at g11 ⊢
  clear ho1 hb1 hs1 hcs hc0 HWS HA0 HAL
  have HX0 : Hid ((w1.alloc (.cells #[.int .i64 0, .string ⟨#[]⟩, .int .i64 0, .int .i64 0, .int .i64 0, .int .i64 0, .int .i64 0, .slice none 0 0, .slice none 0 0, .slice none 0 0] 59)).heap[w1.heap.size]? = some (.cells #[.int .i64 0, .string ⟨#[]⟩, .int .i64 0, .int .i64 0, .int .i64 0, .int .i64 0, .int .i64 0, .slice none 0 0, .slice none 0 0, .slice none 0 0] 59 (0, 0))) := heap_alloc_new _ _
  have HX1 := Lib.hid ((Below.refl w1.heap.size w1).alloc (Nat.le_refl _) (.cells #[.int .i64 0, .string ⟨#[]⟩, .int .i64 0, .int .i64 0, .int .i64 0, .int .i64 0, .int .i64 0, .slice none 0 0, .slice none 0 0, .slice none 0 0] 59))
  go_wp2_with fail
  go_loopw [6] (fun k wr => ∃ j : Nat, 1 ≤ j ∧ j ≤ 14 ∧ k = .int .i64 (j : Int) ∧ wr.heap[w1.heap.size]? = some (.cells (stepCells (kindTo w0 j) ⟨#[]⟩ 0 0 0 0 Script.emptyB none none none 0 0 0) 59 (0, 0)) ∧ Below w1.heap.size w1 wr) (fun k _ => 14 - (intOf k).toNat)
  case atStart => exact ⟨1, Nat.le_refl _, by omega, rfl, by rw [kindTo_one]; exact HX0.out, HX1.out⟩
  case round =>
    obtain ⟨j, hj1, hj, rfl, hx, hb⟩ := hrel
    have HX := Lib.hid hx
    have HB := Lib.hid hb
    clear hx hb HX0 HX1
    by_cases hj13 : j ≤ 13
    · have HWD := Lib.hid (word_any (j : Int) wr)
      obtain ⟨D, hD⟩ : ∃ D, D = ByteArray.mk (wordOf (j : Int)).toArray := ⟨_, rfl⟩
      rw [← hD] at HWD
      have hbe : (D.toList == S0.toList) = decide (wordOf (j : Int) = w0) := by rw [hD, HS0.out]; exact beq_strs _ _
      have hjle : (j : Int) ≤ 13 := by omega
      clear hD
      by_cases he : wordOf (j : Int) = w0
      · have HK := Lib.hid (kindTo_hit hj1 hj13 he)
        rw [decide_eq_true he] at hbe
        clear he
        go_wp2_with fail
        refine HWD.out.mono ?_
        rintro e w2 ⟨rfl, hb2⟩
        have HB2 := Lib.hid (HB.out.trans (hb2.mono HB.out.size))
        have hx2 := (hb2.block _ (Array.getElem?_eq_some_iff.1 HX.out).1).trans HX.out
        have HX2 := Lib.hid hx2
        unfold stepCells at hx2
        obtain ⟨⟨z0, -⟩, y0, -⟩ := ten_cells hx2
        have k0 := HC0.out _ HB2.out
        clear hb2 hx2
        go_wp2_with fail
        go_roundw
        case rel => exact ⟨j + 1, by omega, by omega, by go_num, by rw [HK.out]; exact (Lib.heap_setCell_same HX2.out _).trans rfl, HB2.out.setCell (p := ⟨w1.heap.size, 0, none⟩) (Nat.le_refl _) _⟩
        case measure => simp [intOf]; omega
      · have HK := Lib.hid (kindTo_miss hj1 hj13 he)
        rw [decide_eq_false he] at hbe
        clear he
        go_wp2_with fail
        refine HWD.out.mono ?_
        rintro e w2 ⟨rfl, hb2⟩
        have HB2 := Lib.hid (HB.out.trans (hb2.mono HB.out.size))
        have HX2 := Lib.hid ((hb2.block _ (Array.getElem?_eq_some_iff.1 HX.out).1).trans HX.out)
        have k0 := HC0.out _ HB2.out
        clear hb2
        go_wp2_with fail
        go_roundw
        case rel => exact ⟨j + 1, by omega, by omega, by go_num, by rw [HK.out]; exact HX2.out, HB2.out⟩
        case measure => simp [intOf]; omega
    · obtain rfl : j = 14 := by omega
      rw [kindTo_end] at HX
      have HCW : Hid (candR (w0 :: ws) = (if kindOf w0 = 0 then none else if kindOf w0 = 1 then (match ws with | [] => none | nm :: ws' => candNR 1 nm ws') else candNR (kindOf w0) [] ws)) := rfl
      have HKR := Lib.hid (kindOf_range w0)
      generalize kindOf w0 = K at *
      have HWD := Lib.hid (word_any K wr)
      have hx := HX.out
      unfold stepCells at hx
      obtain ⟨⟨z0, -⟩, -⟩ := ten_cells hx
      have HM4 : Hid (manyOf K ≤ 4) := by
        show _ ≤ _
        unfold manyOf
        split
        · rename_i x hx
          exact shapes_many _ (shape_mem hx).1
        · omega
      obtain ⟨mk, hmk⟩ : ∃ mk, mk = manyOf K := ⟨_, rfl⟩
      have HMK := Lib.hid hmk
      rw [← hmk] at HWD HM4
      clear hx hmk HC0
      go_wp2_with fail
      refine HWD.out.mono ?_
      rintro e w2 ⟨rfl, hb2⟩
      have HB2 := Lib.hid (HB.out.trans (hb2.mono HB.out.size))
      have hx2 := (hb2.block _ (Array.getElem?_eq_some_iff.1 HX.out).1).trans HX.out
      have HX2 := Lib.hid hx2
      unfold stepCells at hx2
      obtain ⟨⟨z0, -⟩, -⟩ := ten_cells hx2
      clear hb2 hx2 HWD HX HB hj hj13 hj1
      go_upto_if 49 with fail
      go_cut [11] (fun s11 wx => RMid w1 (w0 :: ws) K s11 wx)
      case first =>
        by_cases hK1 : K = 1
        · subst hK1
          rcases ws with _ | ⟨nm, ws⟩
          · obtain rfl : n = 1 := by have := HN.out; simpa using this
            have HRES : Hid (Script.readOf l = none) := by show _ = _; rw [HCAND.out, HCW.out]; rfl
            have hab := HAV.out _ (HB2.out)
            obtain ⟨⟨d0, d1, d2, d3, d4, d5, d6, d7, d8, d9⟩, f0, f1, f2, f3, f4, f5, f6, f7, f8, f9⟩ := ten_cells hab
            clear hab 
            go_wp2_with fail
            (try simp only [Exit.inBlock, Exit.then])
            refine bodyPost_ret (by simp [results, Tryd.results22, go_sem, d0, d1, d2, d3, d4, d5, d6, d7, d8, d9]; try rfl) rfl ?_
            refine ⟨?_, exit_below (HBB.out _ (HB2.out))⟩
            unfold RReadRes
            rw [HRES.out]
            exact ⟨0, ⟨#[]⟩, 0, 0, 0, 0, Script.emptyB, none, none, none, 0, 0, 0, rfl⟩
          · have hn2 : ¬ n < 2 := by have := HN.out; simp only [List.length_cons] at this; omega
            have hc1 := HCS.out 1 ⟨⟨nm⟩⟩ rfl
            have hc12 := (HB2.out.cell (lt_of_cell hc1)).trans hc1
            have hx2 := HX2.out
            unfold stepCells at hx2
            obtain ⟨⟨-, z1, -⟩, -, y1, -⟩ := ten_cells hx2
            clear hc1 hx2
            go_wp2_with fail
            go_meet
            case rel =>
              unfold RMid
              refine ⟨2, nm, by go_num, by omega, by simp, .inr (by simp), (Lib.heap_setCell_same HX2.out _).trans rfl, ?_, HB2.out.setCell (p := ⟨w1.heap.size, 1, none⟩) (Nat.le_refl _) _⟩
              rw [HCW.out]; simp
        · have hk1 : (K == 1) = false := by rw [beq_eq_false_iff_ne]; exact hK1
          go_wp2_with fail
          go_meet
          case rel =>
            unfold RMid
            refine ⟨1, [], by go_num, by omega, by simp, .inl rfl, HX2.out, ?_, HB2.out⟩
            rw [HCW.out, if_neg hK1]; rfl
      case rest =>
        unfold RMid at hcut
        obtain ⟨f, nm, rfl, hf1, hfn, hnm, hx, hcw, hb⟩ := hcut
        rw [← HN.out] at hfn
        have HXM := Lib.hid hx
        have HBM := Lib.hid hb
        have HNM := Lib.hid hnm
        clear HCW
        have HCW := Lib.hid hcw
        clear hx hcw hb hnm HX2 HB2
        exact ‹∀ (a : Act) (w : World), Code.wp _ _ _ a w → _› _ _ (rread_rest l w w1 w0 ws n b1 o1 cp1 K mk f nm wc HCAND hwn hl HWB HN hn1 g11 g12 HCS HLT HAV HBB HM4 HMK hf1 hfn HXM HBM HNM HCW)

end Go.Proofs.YtjcffbhgjmaicaaDoor
