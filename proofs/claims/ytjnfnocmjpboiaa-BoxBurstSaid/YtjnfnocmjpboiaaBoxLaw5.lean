/-
  Layer 7 (box): the law BoxCuts.
-/
import Derived.Test.YtjnfnocmjpboiaaBoxLaw3
import Derived.Test.YtjnfnocmjpboiaaBoxOpened
namespace Go.Proofs.Ytjnfnocmjpboiaa
open Go.RowKit
open CrcMath BoxMath

theorem chunks_lt2 {w : World} {a : Option Addr} {cs : List (Nat × List Nat)} (h : Chunks w a cs) : ∀ c ∈ cs, c.1 < 256 ∧ ∀ d ∈ c.2, d < 256 := by
  intro c hc
  obtain ⟨i, hi⟩ := List.getElem?_of_mem hc
  obtain ⟨h1, _, _, _, _, _, _, _, _, _, t⟩ := h i c.1 c.2 hi
  exact ⟨h1, t.1⟩

set_option maxRecDepth 10000 in
set_option maxHeartbeats 4000000 in
theorem boxCuts_small (a : Option Addr) (n c cut : Nat) (cs : List (Nat × List Nat)) (w : World) (hn : cs.length = n) (h : Chunks w a cs) (hg : greatB cs = false) (hcut : cut < 65536) :
    Calls Try.prog 6 #[.slice a n c, .int .u16 (cut : Int)] w fun e w' => e = .returned (.bool true) ∧ Below w.heap.size w w' := by
  have HAW := Lib.hid (awake_any w)
  have HGR := Lib.hid (fun (V : World) (hV : Below w.heap.size w V) => great_any a n c cs V hn (h.below hV))
  rw [hg] at HGR
  obtain ⟨h12, h100, hd⟩ := small_of hg
  have h32 : ∀ c ∈ cs, c.2.length < 4294967296 := fun c hc => by have := h100 c hc; omega
  have HP := Lib.hid (fun (V : World) (hV : Below w.heap.size w V) => lawPack_any a n c cs V hn (by omega) (by omega) (h.below hV))
  have hbox := box_lt (chunks_lt2 h)
  have hbl : (boxOf cs).length = 36 + 18 * n + (dataOf cs).length := by rw [boxOf_len, hn]
  obtain ⟨k, hk⟩ : ∃ k, k = cut % (boxOf cs).length := ⟨_, rfl⟩
  have hkl : k < (boxOf cs).length := by rw [hk]; exact Nat.mod_lt _ (by omega)
  have hki : (cut : Int) % ((boxOf cs).length : Int) = (k : Int) := by rw [hk]; rfl
  have hpos : 0 < (boxOf cs).length := by omega
  have hn12 : n ≤ 12 := by omega
  by_cases hk14 : k < 14 + 9 * n
  · have HBLs : Hid ((boxOf cs).length ≤ 2000) := by show _ ≤ _; omega
    clear hg h h100 h32 hbox hbl hk hd h12
    generalize boxOf cs = B at *
    have hb2 := HBLs.out
    go_enter Try.func6, Try.ntmps6
    go_wp2_with fail
    refine HAW.out.mono ?_
    rintro e w1 ⟨rfl, hb1⟩
    go_wp2_with fail
    refine (HGR.out _ hb1).mono ?_
    rintro e w' ⟨rfl, rfl⟩
    go_wp2_with fail
    refine (HP.out _ hb1).mono ?_
    rintro e w2 ⟨v2, rfl, ho2, hb2⟩
    obtain ⟨A2, c2, rfl, hc2, hm2, t2⟩ := ho2.txt
    have hlt : ((k : Nat) : Int) < 14 + 9 * (n : Int) := by omega
    rw [← hki] at hlt
    go_wp2_with fail
    go_ret
    exact ⟨rfl, hb1.trans (hb2.mono hb1.size)⟩
  · have hcr := cut_right (by omega) h32 (by omega) hbox (k := k) (by omega) hkl
    obtain ⟨ps, hop, hpl, hps⟩ := opened_cut (k := k) (show cs.length < 65536 by omega) h32 (by omega) (by omega)
    have hlk : ((boxOf cs).take k).length = k := by rw [List.length_take]; omega
    have HO := Lib.hid (fun (A : Option Addr) (C : Nat) (V : World) (h1 : k ≤ C) (h2 : C ≤ maxLen) (t : Txt V A ((boxOf cs).take k)) => open_any A C ((boxOf cs).take k) V (by rw [hlk]; exact h1) h2 (by rw [hlk]; omega) t)
    have HR := Lib.hid (fun (A : Option Addr) (C : Nat) (V : World) (h1 : k ≤ C) (h2 : C ≤ maxLen) (t : Txt V A ((boxOf cs).take k)) => rightBox_any A C ((boxOf cs).take k) V (by rw [hlk]; exact h1) h2 (by rw [hlk]; omega) t)
    rw [hop, hlk] at HO
    rw [hcr, hlk] at HR
    have HPA : Hid (∀ (i : Nat) (c : Nat × List Nat), cs[i]? = some c → ∃ p, ps[i]? = some p ∧ p.whole = decide (18 + 9 * n + (dataOf (cs.take i)).length + c.2.length ≤ k) ∧ (p.whole = true → p.data = c.2)) := fun i c h => by rw [← hn]; exact hps i c h
    have HPL : Hid (ps.length = n) := by show _ = _; rw [hpl, hn]
    have HBLs : Hid ((boxOf cs).length ≤ 2000) := by show _ ≤ _; omega
    obtain ⟨D, hD⟩ : ∃ D : Nat → Nat, D = fun k => (dataOf (cs.take k)).length := ⟨_, rfl⟩
    have HD := Lib.hid hD
    have HD0 : Hid (D 0 = 0) := by show _ = _; rw [hD]; rfl
    have HDL : Hid (∀ k, D k ≤ (dataOf cs).length) := fun k => by rw [hD]; exact data_le cs k
    have HN := Lib.hid hn
    have HX := Lib.hid h
    have H100 := Lib.hid h100
    have hnlt : ¬ (((k : Nat) : Int) < 14 + 9 * (n : Int)) := by omega
    clear hg h h100 h32 hD hn hbox hbl hk hcr hop hpl hps hlk h12
    generalize (dataOf cs).length = dl at *
    have HTK : Hid (∀ (V : World) (A : Option Addr), Txt V A (boxOf cs) → Txt V A ((boxOf cs).take k)) := fun V A t => t.take k
    generalize (boxOf cs).take k = Bk at *
    generalize boxOf cs = B at *
    have hb2 := HBLs.out
    have hkl2 : (k : Int) < (B.length : Int) := by omega
    go_enter Try.func6, Try.ntmps6
    go_wp2_with fail
    refine HAW.out.mono ?_
    rintro e w1 ⟨rfl, hb1⟩
    go_wp2_with fail
    refine (HGR.out _ hb1).mono ?_
    rintro e w' ⟨rfl, rfl⟩
    go_wp2_with fail
    refine (HP.out _ hb1).mono ?_
    rintro e w2 ⟨v2, rfl, ho2, hb2w⟩
    obtain ⟨A2, c2, rfl, hc2, hm2, t2⟩ := ho2.txt
    have hbw2 := hb1.trans (hb2w.mono hb1.size)
    have tk2 := HTK.out _ _ t2
    have hkc : k ≤ c2 := by omega
    have HO2 := Lib.hid (HO.out A2 c2 w2 hkc hm2 tk2)
    have HR2 := Lib.hid (fun V (hV : Below w2.heap.size w2 V) => HR.out A2 c2 V hkc hm2 (tk2.below hV))
    have HW2 := Lib.hid hbw2
    clear hb1 hb2w ho2 t2 hbw2 tk2
    go_wp2_with fail
    refine HO2.out.mono ?_
    rintro e w3 ⟨hb3, v3, rfl, hp⟩
    obtain ⟨a3, c3, rfl, hv1, hv2, hat⟩ := hp.form
    have HAT := Lib.hid hat
    have HB3 := Lib.hid hb3
    rw [HPL.out] at hv1 ⊢
    rw [hki]
    clear hp hat hb3 hki
    go_wp2_with fail
    go_loopw [9, 10] (fun p i wr => ∃ j : Nat, j ≤ n ∧ i = .int .i64 j ∧ p = .int .i64 ((18 + 9 * n + D j : Nat) : Int) ∧ Below w3.heap.size w3 wr) (fun _ i _ => n - (intOf i).toNat)
    case atStart => exact ⟨0, by omega, rfl, by rw [HD0.out]; go_num, Below.refl _ _⟩
    case round =>
      obtain ⟨j, hj, rfl, rfl, hb⟩ := hrel
      have hdk := HDL.out j
      by_cases hjn : j < n
      · obtain ⟨⟨kd, l⟩, hck⟩ : ∃ x, cs[j]? = some x := ⟨cs[j]'(by rw [HN.out]; exact hjn), List.getElem?_eq_getElem _⟩
        have hll : l.length ≤ 100 := H100.out _ (List.mem_of_getElem? hck)
        obtain ⟨hkd, b, off, A, c', rfl, hc0, hc1, hlc, hcc, tx0⟩ := HX.out j kd l hck
        obtain ⟨q, hq, hqw, hqd⟩ := HPA.out j _ hck
        obtain ⟨_, bm, om, dv, rfl, hg0, hg1, hg2, hg3, hod⟩ := HAT.out j q hq
        obtain ⟨Am, cm, rfl, hlm, hcm, tm0⟩ := hod.txt
        have hb3w : Below w.heap.size w wr := (HW2.out.trans (HB3.out.mono HW2.out.size)).trans (hb.mono (Nat.le_trans HW2.out.size HB3.out.size))
        have e1 := (hb3w.cell (p := ⟨b, off + j * 2 + 1, none⟩) (lt_of_cell hc1)).trans hc1
        have g1 := (hb.cell (p := ⟨bm, om + j * 4 + 1, none⟩) (lt_of_cell hg1)).trans hg1
        have g3 := (hb.cell (p := ⟨bm, om + j * 4 + 3, none⟩) (lt_of_cell hg3)).trans hg3
        have tx := tx0.below hb3w
        have tm := tm0.below hb
        have HS : Hid (D (j + 1) = D j + l.length) := by show _ = _; rw [HD.out]; show (dataOf (cs.take (j + 1))).length = _; rw [data_succ hck, List.length_append]
        have hdk1 := HDL.out (j + 1)
        rw [HS.out] at hdk1
        have hDk : (dataOf (cs.take j)).length = D j := by rw [HD.out]
        simp only [hDk] at hqw
        have k1 := fun m => run_convert_str (w := wr.drewN m) tx c'
        have k2 := fun m => run_convert_str (w := wr.drewN m) tm cm
        clear hck hc0 hc1 hg0 hg1 hg2 hg3 tx0 tm0 hod hDk tx tm hq
        have hpm : 18 + 9 * n + D j ≤ 100000 := by omega
        have HQ : Hid (18 + 9 * n + D (j + 1) = 18 + 9 * n + D j + l.length) := by show _ = _; rw [HS.out]; omega
        generalize D j = d at *
        generalize 18 + 9 * n + d = p at *
        have HB := Lib.hid hb
        by_cases hin : p + l.length ≤ k
        · have hdec : decide ((p : Int) + (l.length : Int) ≤ (k : Int)) = true := by rw [decide_eq_true_iff]; omega
          have hw : q.whole = true := by rw [hqw, decide_eq_true_iff]; exact hin
          have hda := hqd hw
          simp only at hda
          rw [hw] at g3
          rw [hda] at g1 k2
          clear hqw hqd hda hw hb
          go_wp2_with fail
          go_quiet (fail)
          go_wp2_with fail
          go_roundw
          case rel => exact ⟨j + 1, by omega, by go_num, by rw [HQ.out]; go_num, below_drewN HB.out _⟩
          case measure => simp [intOf]; omega
        · have hdec : decide ((p : Int) + (l.length : Int) ≤ (k : Int)) = false := by rw [decide_eq_false_iff_not]; omega
          have hw : q.whole = false := by rw [hqw, decide_eq_false_iff_not]; exact hin
          rw [hw] at g3
          clear hqw hqd hw hb
          go_wp2_with fail
          go_quiet (fail)
          go_wp2_with fail
          go_roundw
          case rel => exact ⟨j + 1, by omega, by go_num, by rw [HQ.out]; go_num, below_drewN HB.out _⟩
          case measure => simp [intOf]; omega
      · obtain rfl : j = n := by omega
        have HB4 := Lib.hid (HB3.out.trans (hb.mono HB3.out.size))
        clear hb
        go_wp2_with fail
        refine (HR2.out _ HB4.out).mono ?_
        rintro e w5 ⟨rfl, hb5⟩
        go_wp2_with fail
        go_ret
        have hb6 := HW2.out.trans (HB4.out.mono HW2.out.size)
        exact ⟨rfl, hb6.trans (hb5.mono (Nat.le_trans hb6.size (Nat.le_refl _)))⟩

set_option maxHeartbeats 2000000 in
theorem boxCuts_all (a : Option Addr) (n c cut : Nat) (cs : List (Nat × List Nat)) (w : World) (hn : cs.length = n) (h : Chunks w a cs) (hcut : cut < 65536) :
    Calls Try.prog 6 #[.slice a n c, .int .u16 (cut : Int)] w fun e w' => e = .returned (.bool true) ∧ Below w.heap.size w w' := by
  by_cases hg : greatB cs = true
  · have HAW := Lib.hid (awake_any w)
    have HGR := Lib.hid (fun (V : World) (hV : Below w.heap.size w V) => great_any a n c cs V hn (h.below hV))
    rw [hg] at HGR
    go_enter Try.func6, Try.ntmps6
    go_wp2_with fail
    refine HAW.out.mono ?_
    rintro e w1 ⟨rfl, hb1⟩
    go_wp2_with fail
    refine (HGR.out _ hb1).mono ?_
    rintro e w' ⟨rfl, rfl⟩
    go_wp2_with fail
    go_ret
    exact ⟨rfl, hb1⟩
  · exact boxCuts_small a n c cut cs w hn h (by rw [Bool.not_eq_true] at hg; exact hg) hcut

end Go.Proofs.Ytjnfnocmjpboiaa
