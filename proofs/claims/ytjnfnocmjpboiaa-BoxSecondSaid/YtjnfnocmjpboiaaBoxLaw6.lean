/-
  Layer 7 (box): the law BoxSecond.
-/
import Derived.Test.YtjnfnocmjpboiaaBoxLaw5
import Derived.Test.YtjnfnocmjpboiaaOwnMore
namespace Go.Proofs.Ytjnfnocmjpboiaa
open Go.RowKit
open CrcMath BoxMath

/-- A box's bytes, the first k of them noughts. -/
def noughted (l : List Nat) (k : Nat) : List Nat := List.replicate k 0 ++ l.drop k
theorem noughted_zero (l : List Nat) : noughted l 0 = l := rfl
theorem noughted_len (l : List Nat) (k : Nat) (h : k ≤ l.length) : (noughted l k).length = l.length := by
  rw [noughted, List.length_append, List.length_replicate, List.length_drop]; omega
theorem noughted_succ (l : List Nat) (k : Nat) (h : k < l.length) : noughted l (k + 1) = (noughted l k).set k 0 := by
  unfold noughted
  rw [List.drop_eq_getElem_cons h, List.set_append_right _ _ (by rw [List.length_replicate]; exact Nat.le_refl _), List.length_replicate, Nat.sub_self, List.set_cons_zero, List.replicate_succ', List.append_assoc]
  rfl

set_option maxRecDepth 10000 in
set_option maxHeartbeats 4000000 in
theorem boxSecond_Cut (a : Option Addr) (n c lost : Nat) (cs : List (Nat × List Nat)) (w : World) (hn : cs.length = n) (h : Chunks w a cs) (hg : greatB cs = false) (_hlost : lost < 65536) :
    Calls Try.prog 7 #[.slice a n c, .int .u16 (lost : Int), .bool true] w fun e w' => e = .returned (.bool true) ∧ Below w.heap.size w w' := by
  have HAW := Lib.hid (awake_any w)
  have HGR := Lib.hid (fun (V : World) (hV : Below w.heap.size w V) => great_any a n c cs V hn (h.below hV))
  rw [hg] at HGR
  obtain ⟨h12, h100, hd⟩ := small_of hg
  have h32 : ∀ c ∈ cs, c.2.length < 4294967296 := fun c hc => by have := h100 c hc; omega
  have HP := Lib.hid (fun (V : World) (hV : Below w.heap.size w V) => lawPack_any a n c cs V hn (by omega) (by omega) (h.below hV))
  have hbox := box_lt (chunks_lt2 h)
  have hbl : (boxOf cs).length = 36 + 18 * n + (dataOf cs).length := by rw [boxOf_len, hn]
  obtain ⟨r, hr⟩ : ∃ r, r = lost % (18 + 9 * n + (dataOf cs).length) := ⟨_, rfl⟩
  have hrl : r < 18 + 9 * n + (dataOf cs).length := by rw [hr]; exact Nat.mod_lt _ (by omega)
  have hri : (lost : Int) % (18 + 9 * (n : Int) + (((boxOf cs).length : Int) - 2 * (18 + 9 * (n : Int)))) = (r : Int) := by
    rw [hr, show 18 + 9 * (n : Int) + (((boxOf cs).length : Int) - 2 * (18 + 9 * (n : Int))) = ((18 + 9 * n + (dataOf cs).length : Nat) : Int) from by omega]; rfl
  obtain ⟨k, hk⟩ : ∃ k, k = r + 1 := ⟨_, rfl⟩
  have hkr : 1 + (r : Int) = (k : Int) := by omega
  have hpos : 0 < (boxOf cs).length := by omega
  have hn12 : n ≤ 12 := by omega
  have hkl : k < (boxOf cs).length := by omega
  obtain ⟨u, hu⟩ : ∃ u, (boxOf cs)[k]? = some u := ⟨_, List.getElem?_eq_getElem hkl⟩
  have hlk : ((boxOf cs).drop k).length = (boxOf cs).length - k := by rw [List.length_drop]
  have hops : u ≠ 71 → ∃ ps, opened ((boxOf cs).drop k) = some ps ∧ ps.length = cs.length ∧ ∀ i c, cs[i]? = some c → ∃ p, ps[i]? = some p ∧ p.at_ = ((18 + 9 * cs.length + (dataOf (cs.take i)).length : Nat) : Int) - (k : Int) ∧
      (k ≤ 18 + 9 * cs.length + (dataOf (cs.take i)).length → p.whole = true ∧ p.data = c.2) ∧ (p.whole = true → p.data.length = c.2.length) := fun h71 =>
    opened_lost (k := k) (show cs.length < 65536 by omega) h32 (by omega) (by
      rw [List.getD_eq_getElem?_getD, List.getElem?_drop, Nat.add_zero, hu]; exact h71)
  have HU := Lib.hid hu
  have hu8 := hbox u (List.mem_of_getElem? hu)
  obtain ⟨Bk, hBk⟩ : ∃ Bk, Bk = (boxOf cs).drop k := ⟨_, rfl⟩
  rw [← hBk] at hops hlk
  have HOP := Lib.hid hops
  have HLK := Lib.hid hlk
  have HCS := Lib.hid (hn)
  have HBLs : Hid ((boxOf cs).length ≤ 2000) := by show _ ≤ _; omega
  obtain ⟨D, hD⟩ : ∃ D : Nat → Nat, D = fun k => (dataOf (cs.take k)).length := ⟨_, rfl⟩
  have HD := Lib.hid hD
  have HD0 : Hid (D 0 = 0) := by show _ = _; rw [hD]; rfl
  have HDL : Hid (∀ k, D k ≤ (dataOf cs).length) := fun k => by rw [hD]; exact data_le cs k
  have HN := Lib.hid hn
  have HX := Lib.hid h
  have H100 := Lib.hid h100
  have hkd : k ≤ 18 + 9 * n + (dataOf cs).length := by omega
  have HKB := Lib.hid hkd
  clear hg h h100 h32 hD hbox hr hk hops hlk h12 hn
  clear hu
  generalize (dataOf cs).length = dl at *
  have HTK : Hid (Bk = (boxOf cs).drop k) := hBk
  clear hBk
  generalize boxOf cs = B at *
  have hbl2 : 36 + 18 * (n : Int) ≤ (B.length : Int) := by omega
  have hrl2 : (r : Int) < 3000 := by omega
  have HBL := Lib.hid hbl
  have hb2 := HBLs.out
  clear hkd hbl hd hrl
  go_enter Try.func7, Try.ntmps7
  go_wp2_with fail
  refine HAW.out.mono ?_
  rintro e w1 ⟨rfl, hb1⟩
  go_wp2_with fail
  refine (HGR.out _ hb1).mono ?_
  rintro e w' ⟨rfl, rfl⟩
  go_wp2_with fail
  refine (HP.out _ hb1).mono ?_
  rintro e w2 ⟨v2, rfl, ho2, hb2w⟩
  obtain ⟨A2, c2, rfl, hc2, hm2, t2⟩ := ho2.txt
  have hbw2 := hb1.trans (hb2w.mono hb1.size)
  have HW2 := Lib.hid hbw2
  have hba := (Below.refl w2.heap.size w2).alloc (Nat.le_refl _) (.cells #[] 5)
  have tA := t2.below hba
  clear hb1 hb2w ho2 t2 hbw2
  go_wp2_with (at_builtin; refine stop ?_)
  refine unstop (wpList_appendB rfl (.tmp 42) (.tmp 43) rfl rfl (OwnB.new (Nat.le_refl _)) rfl rfl tA (by simp; omega) (by simp) ?_)
  intro v3 w3 ho3 hg3 _
  rw [List.nil_append] at ho3
  have hb3 := below_appendB hba (OwnB.new (Nat.le_refl _)) (Nat.le_refl _) hg3
  obtain ⟨g, c3, rfl, hc3, hcm3, hg3', hg4⟩ := ho3.form hpos
  clear hba tA hg3
  have c0 := ho3.cell HU.out
  have tk3 : Txt w3 (some ⟨g, k, none⟩) Bk := by
    have h := (ho3.read).drop k
    rw [Nat.zero_add, ← HTK.out] at h
    exact h
  have hkc : k ≤ c3 := by omega
  have hkc2 : (k : Int) ≤ (B.length : Int) := by omega
  by_cases h71 : u = 71
  · subst h71
    go_wp2_with fail
    go_ret
    exact ⟨rfl, HW2.out.trans (hb3.mono HW2.out.size)⟩
  · have h71' : ((u : Int) == 71) = false := by rw [beq_eq_false_iff_ne]; omega
    obtain ⟨ps, hop, hpl, hps⟩ := HOP.out h71
    have HO3 := Lib.hid (open_any (some ⟨g, k, none⟩) (c3 - k) Bk w3 (by rw [HLK.out]; omega) (by omega) (by rw [HLK.out]; omega) tk3)
    rw [hop, HLK.out] at HO3
    have HB3 := Lib.hid hb3
    clear hop tk3 hb3
    go_wp2_with fail
    refine HO3.out.mono ?_
    rintro e w4 ⟨hb4, v4, rfl, hp⟩
    obtain ⟨a4, c4, rfl, hv1, hv2, hat⟩ := hp.form
    have HAT := Lib.hid hat
    have HB4 := Lib.hid hb4
    have HPS := Lib.hid hps
    rw [hpl.trans HCS.out] at hv1 ⊢
    clear hp hat hb4 hpl hps HOP HO3
    go_wp2_with fail
    go_loopw [15, 16, 17, 18] (fun p i _ _ wr => ∃ m : Nat, m ≤ n ∧ i = .int .i64 m ∧ p = .int .i64 ((18 + 9 * n + D m : Nat) : Int) ∧ Below w4.heap.size w4 wr) (fun _ i _ _ _ => n - (intOf i).toNat)
    case atStart => exact ⟨0, by omega, rfl, by rw [HD0.out]; go_num, Below.refl _ _⟩
    case round =>
      obtain ⟨m, hm, rfl, rfl, hb⟩ := hrel
      have hdk := HDL.out m
      by_cases hmn : m < n
      · obtain ⟨⟨kd, l⟩, hck⟩ : ∃ x, cs[m]? = some x := ⟨cs[m]'(by rw [HN.out]; exact hmn), List.getElem?_eq_getElem _⟩
        have hll : l.length ≤ 100 := H100.out _ (List.mem_of_getElem? hck)
        obtain ⟨hkd, b, off, A, c', rfl, hc0, hc1, hlc, hcc, tx0⟩ := HX.out m kd l hck
        obtain ⟨q, hq, hqa, hqk, hqn⟩ := HPS.out m _ hck
        rw [HCS.out] at hqa hqk
        obtain ⟨_, bm, om, dv, rfl, hg0, hg1, hg2, hg3, hod⟩ := HAT.out m q hq
        obtain ⟨Am, cm, rfl, hlm, hcm, tm0⟩ := hod.txt
        have hs3 := Nat.le_trans HW2.out.size HB3.out.size
        have hb3w : Below w.heap.size w wr := ((HW2.out.trans (HB3.out.mono HW2.out.size)).trans (HB4.out.mono hs3)).trans (hb.mono (Nat.le_trans hs3 HB4.out.size))
        have e1 := (hb3w.cell (p := ⟨b, off + m * 2 + 1, none⟩) (lt_of_cell hc1)).trans hc1
        have g1 := (hb.cell (p := ⟨bm, om + m * 4 + 1, none⟩) (lt_of_cell hg1)).trans hg1
        have g2 := (hb.cell (p := ⟨bm, om + m * 4 + 2, none⟩) (lt_of_cell hg2)).trans hg2
        have g3 := (hb.cell (p := ⟨bm, om + m * 4 + 3, none⟩) (lt_of_cell hg3)).trans hg3
        have tx := tx0.below hb3w
        have tm := tm0.below hb
        have HS : Hid (D (m + 1) = D m + l.length) := by show _ = _; rw [HD.out]; show (dataOf (cs.take (m + 1))).length = _; rw [data_succ hck, List.length_append]
        have hdk1 := HDL.out (m + 1)
        rw [HS.out] at hdk1
        have hDk : (dataOf (cs.take m)).length = D m := by rw [HD.out]
        rw [hDk] at hqa hqk
        have k1 := fun m => run_convert_str (w := wr.drewN m) tx c'
        have k2 := fun m => run_convert_str (w := wr.drewN m) tm cm
        have hbl3 := HBL.out
        clear hck hc0 hc1 hg0 hg1 hg2 hg3 tx0 tm0 hod hDk tx tm hq
        have hpm : 18 + 9 * n + D m ≤ 100000 := by omega
        have HQ : Hid (18 + 9 * n + D (m + 1) = 18 + 9 * n + D m + l.length) := by show _ = _; rw [HS.out]; omega
        generalize D m = d at *
        generalize 18 + 9 * n + d = p at *
        have HB := Lib.hid hb
        rw [hqa] at g2
        have hne1 : (((p : Int) - (k : Int)) != ((p : Int) - (k : Int))) = false := by simp
        have wsub : IntKind.i64.wrap ((p : Int) - (k : Int)) = (p : Int) - (k : Int) := IntWalk.i64_in _ (by omega)
        by_cases hin : k ≤ p
        · have hdec : decide ((k : Int) ≤ (p : Int)) = true := by rw [decide_eq_true_iff]; omega
          obtain ⟨hw, hda⟩ := hqk hin
          simp only at hda
          have hnn : ((l.length : Int) != (l.length : Int)) = false := by simp
          rw [hw] at g3
          rw [hda] at g1 k2
          clear hqk hqn hqa hda hw hb hbl3
          go_wp2_with fail
          go_quiet (fail)
          go_wp2_with fail
          go_roundw
          case rel => exact ⟨m + 1, by omega, by go_num, by rw [HQ.out]; go_num, below_drewN HB.out _⟩
          case measure => simp [intOf]; omega
        · have hdec : decide ((k : Int) ≤ (p : Int)) = false := by rw [decide_eq_false_iff_not]; omega
          cases hw : q.whole with
          | true =>
            have hlen := hqn hw
            simp only at hlen
            rw [hw] at g3
            rw [hlen] at g1
            have hnn : ((l.length : Int) != (l.length : Int)) = false := by simp
            clear hqk hqn hqa hw hb k2 hlen hbl3
            go_wp2_with fail
            go_quiet (fail)
            go_wp2_with fail
            go_roundw
            case rel => exact ⟨m + 1, by omega, by go_num, by rw [HQ.out]; go_num, below_drewN HB.out _⟩
            case measure => simp [intOf]; omega
          | false =>
            rw [hw] at g3
            clear hqk hqn hqa hw hb hbl3
            go_wp2_with fail
            go_quiet (fail)
            go_wp2_with fail
            go_roundw
            case rel => exact ⟨m + 1, by omega, by go_num, by rw [HQ.out]; go_num, below_drewN HB.out _⟩
            case measure => simp [intOf]; omega
      · obtain rfl : m = n := by omega
        have hs3 := Nat.le_trans HW2.out.size HB3.out.size
        have hb3w : Below w.heap.size w wr := ((HW2.out.trans (HB3.out.mono HW2.out.size)).trans (HB4.out.mono hs3)).trans (hb.mono (Nat.le_trans hs3 HB4.out.size))
        go_wp2_with fail
        go_ret
        exact ⟨rfl, hb3w⟩

set_option maxRecDepth 10000 in
set_option maxHeartbeats 4000000 in
theorem boxSecond_Nought (a : Option Addr) (n c lost : Nat) (cs : List (Nat × List Nat)) (w : World) (hn : cs.length = n) (h : Chunks w a cs) (hg : greatB cs = false) (_hlost : lost < 65536) :
    Calls Try.prog 7 #[.slice a n c, .int .u16 (lost : Int), .bool false] w fun e w' => e = .returned (.bool true) ∧ Below w.heap.size w w' := by
  have HAW := Lib.hid (awake_any w)
  have HGR := Lib.hid (fun (V : World) (hV : Below w.heap.size w V) => great_any a n c cs V hn (h.below hV))
  rw [hg] at HGR
  obtain ⟨h12, h100, hd⟩ := small_of hg
  have h32 : ∀ c ∈ cs, c.2.length < 4294967296 := fun c hc => by have := h100 c hc; omega
  have HP := Lib.hid (fun (V : World) (hV : Below w.heap.size w V) => lawPack_any a n c cs V hn (by omega) (by omega) (h.below hV))
  have hbox := box_lt (chunks_lt2 h)
  have hbl : (boxOf cs).length = 36 + 18 * n + (dataOf cs).length := by rw [boxOf_len, hn]
  obtain ⟨r, hr⟩ : ∃ r, r = lost % (18 + 9 * n + (dataOf cs).length) := ⟨_, rfl⟩
  have hrl : r < 18 + 9 * n + (dataOf cs).length := by rw [hr]; exact Nat.mod_lt _ (by omega)
  have hri : (lost : Int) % (18 + 9 * (n : Int) + (((boxOf cs).length : Int) - 2 * (18 + 9 * (n : Int)))) = (r : Int) := by
    rw [hr, show 18 + 9 * (n : Int) + (((boxOf cs).length : Int) - 2 * (18 + 9 * (n : Int))) = ((18 + 9 * n + (dataOf cs).length : Nat) : Int) from by omega]; rfl
  obtain ⟨k, hk⟩ : ∃ k, k = r + 1 := ⟨_, rfl⟩
  have hkr : 1 + (r : Int) = (k : Int) := by omega
  have hpos : 0 < (boxOf cs).length := by omega
  have hn12 : n ≤ 12 := by omega
  have hkl : k < (boxOf cs).length := by omega
  have hlk : (noughted (boxOf cs) k).length = (boxOf cs).length := noughted_len _ _ (by omega)
  have hops : ∃ ps, opened (noughted (boxOf cs) k) = some ps ∧ ps.length = cs.length ∧ ∀ i c, cs[i]? = some c → ∃ p, ps[i]? = some p ∧ p.at_ = ((18 + 9 * cs.length + (dataOf (cs.take i)).length : Nat) : Int) ∧
      (k ≤ 18 + 9 * cs.length + (dataOf (cs.take i)).length → p.whole = true ∧ p.data = c.2) ∧ (p.whole = true → p.data.length = c.2.length) :=
    opened_nought (k := k) (show cs.length < 65536 by omega) h32 (by omega) (by omega)
  have HNS : Hid (∀ j, j < (boxOf cs).length → noughted (boxOf cs) (j + 1) = (noughted (boxOf cs) j).set j 0) := fun j hj => noughted_succ _ _ hj
  have HNL : Hid (∀ j, j ≤ (boxOf cs).length → (noughted (boxOf cs) j).length = (boxOf cs).length) := fun j hj => noughted_len _ _ hj
  have HNZ : Hid (noughted (boxOf cs) 0 = boxOf cs) := rfl
  obtain ⟨N, hN⟩ : ∃ N, N = noughted (boxOf cs) := ⟨_, rfl⟩
  have HN1 : Hid (∀ j, 1 ≤ j → (N j)[0]? = some 0) := fun j hj => by
    rw [hN, noughted, List.getElem?_append_left (by rw [List.length_replicate]; omega), List.getElem?_replicate, if_pos (by omega)]
  rw [← hN] at hops hlk HNS HNL HNZ
  have HOP := Lib.hid hops
  have HLK := Lib.hid hlk
  have HCS := Lib.hid (hn)
  have HBLs : Hid ((boxOf cs).length ≤ 2000) := by show _ ≤ _; omega
  obtain ⟨D, hD⟩ : ∃ D : Nat → Nat, D = fun k => (dataOf (cs.take k)).length := ⟨_, rfl⟩
  have HD := Lib.hid hD
  have HD0 : Hid (D 0 = 0) := by show _ = _; rw [hD]; rfl
  have HDL : Hid (∀ k, D k ≤ (dataOf cs).length) := fun k => by rw [hD]; exact data_le cs k
  have HN := Lib.hid hn
  have HX := Lib.hid h
  have H100 := Lib.hid h100
  have hkd : k ≤ 18 + 9 * n + (dataOf cs).length := by omega
  have HKB := Lib.hid hkd
  clear hg h h100 h32 hD hbox hr hk hops hlk h12 hn
  generalize (dataOf cs).length = dl at *
  clear hN
  generalize boxOf cs = B at *
  have hbl2 : 36 + 18 * (n : Int) ≤ (B.length : Int) := by omega
  have hrl2 : (r : Int) < 3000 := by omega
  have HBL := Lib.hid hbl
  have hb2 := HBLs.out
  clear hkd hbl hd hrl
  go_enter Try.func7, Try.ntmps7
  go_wp2_with fail
  refine HAW.out.mono ?_
  rintro e w1 ⟨rfl, hb1⟩
  go_wp2_with fail
  refine (HGR.out _ hb1).mono ?_
  rintro e w' ⟨rfl, rfl⟩
  go_wp2_with fail
  refine (HP.out _ hb1).mono ?_
  rintro e w2 ⟨v2, rfl, ho2, hb2w⟩
  obtain ⟨A2, c2, rfl, hc2, hm2, t2⟩ := ho2.txt
  have hbw2 := hb1.trans (hb2w.mono hb1.size)
  have HW2 := Lib.hid hbw2
  have hba := (Below.refl w2.heap.size w2).alloc (Nat.le_refl _) (.cells #[] 5)
  have tA := t2.below hba
  clear hb1 hb2w ho2 t2 hbw2
  go_wp2_with (at_builtin; refine stop ?_)
  refine unstop (wpList_appendB rfl (.tmp 42) (.tmp 43) rfl rfl (OwnB.new (Nat.le_refl _)) rfl rfl tA (by simp; omega) (by simp) ?_)
  intro v3 w3 ho3 hg3 _
  rw [List.nil_append] at ho3
  have hb3 := below_appendB hba (OwnB.new (Nat.le_refl _)) (Nat.le_refl _) hg3
  obtain ⟨g, c3, rfl, hc3, hcm3, hg3', hg4⟩ := ho3.form hpos
  clear hba tA hg3
  have HO0 : Hid (OwnB w3 w2.heap.size (.slice (some ⟨g, 0, none⟩) B.length c3) (N 0)) := by show OwnB _ _ _ _; rw [HNZ.out]; exact ho3
  have HB30 := Lib.hid hb3
  clear ho3 hb3
  go_wp2_with fail
  go_loopw [12] (fun i wr => ∃ j : Nat, j ≤ k ∧ i = .int .i64 j ∧ OwnB wr w2.heap.size (.slice (some ⟨g, 0, none⟩) B.length c3) (N j) ∧ Below w2.heap.size w2 wr) (fun i _ => k - (intOf i).toNat)
  case atStart => exact ⟨0, by omega, rfl, HO0.out, HB30.out⟩
  case round =>
    clear HO0 HB30
    obtain ⟨j, hj, rfl, hoj, hbj⟩ := hrel
    by_cases hjk : j < k
    · have hNl := HNL.out j (by omega)
      obtain ⟨u, hu⟩ : ∃ u, (N j)[j]? = some u := ⟨_, List.getElem?_eq_getElem (by omega)⟩
      have c0 := hoj.cell hu
      have f0 := hoj.thawed j
      have ho1 := hoj.set j 0 (by decide)
      rw [← HNS.out j (by omega)] at ho1
      have hb1 := hbj.setCell (p := ⟨g, j, none⟩) hg3' (.int .u8 ((0 : Nat) : Int))
      have hjB : (j : Int) < (B.length : Int) := by omega
      clear hu hNl hoj hbj
      go_wp2_with fail
      go_roundw
      case rel => exact ⟨j + 1, by omega, by go_num, ho1, hb1⟩
      case measure => simp [intOf]; omega
    · obtain rfl : j = k := by omega
      have c0 := hoj.cell (HN1.out j (by omega))
      have tk3 := hoj.read
      obtain ⟨ps, hop, hpl, hps⟩ := HOP.out
      have HO3 := Lib.hid (open_any (some ⟨g, 0, none⟩) c3 (N j) wr (by rw [HLK.out]; omega) hcm3 (by rw [HLK.out]; omega) tk3)
      rw [hop, HLK.out] at HO3
      have HB3 := Lib.hid hbj
      clear hop tk3 hoj hbj
      go_wp2_with fail
      refine HO3.out.mono ?_
      rintro e w4 ⟨hb4, v4, rfl, hp⟩
      obtain ⟨a4, c4, rfl, hv1, hv2, hat⟩ := hp.form
      have HAT := Lib.hid hat
      have HB4 := Lib.hid hb4
      have HPS := Lib.hid hps
      rw [hpl.trans HCS.out] at hv1 ⊢
      clear hp hat hb4 hpl hps HOP HO3
      go_wp2_with fail
      go_loopw [15, 16, 17, 18] (fun p i _ _ wr => ∃ m : Nat, m ≤ n ∧ i = .int .i64 m ∧ p = .int .i64 ((18 + 9 * n + D m : Nat) : Int) ∧ Below w4.heap.size w4 wr) (fun _ i _ _ _ => n - (intOf i).toNat)
      case atStart => exact ⟨0, by omega, rfl, by rw [HD0.out]; go_num, Below.refl _ _⟩
      case round =>
        obtain ⟨m, hm, rfl, rfl, hb⟩ := hrel
        have hdk := HDL.out m
        by_cases hmn : m < n
        · obtain ⟨⟨kd, l⟩, hck⟩ : ∃ x, cs[m]? = some x := ⟨cs[m]'(by rw [HN.out]; exact hmn), List.getElem?_eq_getElem _⟩
          have hll : l.length ≤ 100 := H100.out _ (List.mem_of_getElem? hck)
          obtain ⟨hkd, b, off, A, c', rfl, hc0, hc1, hlc, hcc, tx0⟩ := HX.out m kd l hck
          obtain ⟨q, hq, hqa, hqk, hqn⟩ := HPS.out m _ hck
          rw [HCS.out] at hqa hqk
          obtain ⟨_, bm, om, dv, rfl, hg0, hg1, hg2, hg3, hod⟩ := HAT.out m q hq
          obtain ⟨Am, cm, rfl, hlm, hcm, tm0⟩ := hod.txt
          have hs3 := Nat.le_trans HW2.out.size HB3.out.size
          have hb3w : Below w.heap.size w wr := ((HW2.out.trans (HB3.out.mono HW2.out.size)).trans (HB4.out.mono hs3)).trans (hb.mono (Nat.le_trans hs3 HB4.out.size))
          have e1 := (hb3w.cell (p := ⟨b, off + m * 2 + 1, none⟩) (lt_of_cell hc1)).trans hc1
          have g1 := (hb.cell (p := ⟨bm, om + m * 4 + 1, none⟩) (lt_of_cell hg1)).trans hg1
          have g2 := (hb.cell (p := ⟨bm, om + m * 4 + 2, none⟩) (lt_of_cell hg2)).trans hg2
          have g3 := (hb.cell (p := ⟨bm, om + m * 4 + 3, none⟩) (lt_of_cell hg3)).trans hg3
          have tx := tx0.below hb3w
          have tm := tm0.below hb
          have HS : Hid (D (m + 1) = D m + l.length) := by show _ = _; rw [HD.out]; show (dataOf (cs.take (m + 1))).length = _; rw [data_succ hck, List.length_append]
          have hdk1 := HDL.out (m + 1)
          rw [HS.out] at hdk1
          have hDk : (dataOf (cs.take m)).length = D m := by rw [HD.out]
          rw [hDk] at hqa hqk
          have k1 := fun m => run_convert_str (w := wr.drewN m) tx c'
          have k2 := fun m => run_convert_str (w := wr.drewN m) tm cm
          have hbl3 := HBL.out
          clear hck hc0 hc1 hg0 hg1 hg2 hg3 tx0 tm0 hod hDk tx tm hq
          have hpm : 18 + 9 * n + D m ≤ 100000 := by omega
          have HQ : Hid (18 + 9 * n + D (m + 1) = 18 + 9 * n + D m + l.length) := by show _ = _; rw [HS.out]; omega
          generalize D m = d at *
          generalize 18 + 9 * n + d = p at *
          have HB := Lib.hid hb
          rw [hqa] at g2
          have hne1 : ((p : Int) != (p : Int)) = false := by simp
          have wsub : IntKind.i64.wrap ((p : Int) - (j : Int)) = (p : Int) - (j : Int) := IntWalk.i64_in _ (by omega)
          by_cases hin : j ≤ p
          · have hdec : decide ((j : Int) ≤ (p : Int)) = true := by rw [decide_eq_true_iff]; omega
            obtain ⟨hw, hda⟩ := hqk hin
            simp only at hda
            have hnn : ((l.length : Int) != (l.length : Int)) = false := by simp
            rw [hw] at g3
            rw [hda] at g1 k2
            clear hqk hqn hqa hda hw hb hbl3
            go_wp2_with fail
            go_quiet (fail)
            go_wp2_with fail
            go_roundw
            case rel => exact ⟨m + 1, by omega, by go_num, by rw [HQ.out]; go_num, below_drewN HB.out _⟩
            case measure => simp [intOf]; omega
          · have hdec : decide ((j : Int) ≤ (p : Int)) = false := by rw [decide_eq_false_iff_not]; omega
            cases hw : q.whole with
            | true =>
              have hlen := hqn hw
              simp only at hlen
              rw [hw] at g3
              rw [hlen] at g1
              have hnn : ((l.length : Int) != (l.length : Int)) = false := by simp
              clear hqk hqn hqa hw hb k2 hlen hbl3
              go_wp2_with fail
              go_quiet (fail)
              go_wp2_with fail
              go_roundw
              case rel => exact ⟨m + 1, by omega, by go_num, by rw [HQ.out]; go_num, below_drewN HB.out _⟩
              case measure => simp [intOf]; omega
            | false =>
              rw [hw] at g3
              clear hqk hqn hqa hw hb hbl3
              go_wp2_with fail
              go_quiet (fail)
              go_wp2_with fail
              go_roundw
              case rel => exact ⟨m + 1, by omega, by go_num, by rw [HQ.out]; go_num, below_drewN HB.out _⟩
              case measure => simp [intOf]; omega
        · obtain rfl : m = n := by omega
          have hs3 := Nat.le_trans HW2.out.size HB3.out.size
          have hb3w : Below w.heap.size w wr := ((HW2.out.trans (HB3.out.mono HW2.out.size)).trans (HB4.out.mono hs3)).trans (hb.mono (Nat.le_trans hs3 HB4.out.size))
          go_wp2_with fail
          go_ret
          exact ⟨rfl, hb3w⟩

set_option maxHeartbeats 2000000 in
theorem boxSecond_all (a : Option Addr) (n c lost : Nat) (cut : Bool) (cs : List (Nat × List Nat)) (w : World) (hn : cs.length = n) (h : Chunks w a cs) (hlost : lost < 65536) :
    Calls Try.prog 7 #[.slice a n c, .int .u16 (lost : Int), .bool cut] w fun e w' => e = .returned (.bool true) ∧ Below w.heap.size w w' := by
  by_cases hg : greatB cs = true
  · have HAW := Lib.hid (awake_any w)
    have HGR := Lib.hid (fun (V : World) (hV : Below w.heap.size w V) => great_any a n c cs V hn (h.below hV))
    rw [hg] at HGR
    go_enter Try.func7, Try.ntmps7
    go_wp2_with fail
    refine HAW.out.mono ?_
    rintro e w1 ⟨rfl, hb1⟩
    go_wp2_with fail
    refine (HGR.out _ hb1).mono ?_
    rintro e w' ⟨rfl, rfl⟩
    go_wp2_with fail
    go_ret
    exact ⟨rfl, hb1⟩
  · rw [Bool.not_eq_true] at hg
    cases cut with
    | true => exact boxSecond_Cut a n c lost cs w hn h hg hlost
    | false => exact boxSecond_Nought a n c lost cs w hn h hg hlost

end Go.Proofs.Ytjnfnocmjpboiaa
