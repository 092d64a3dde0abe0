/-
  Layer 7 (box): the law BoxBurst.
-/
import Derived.Test.YtjnfnocmjpboiaaBoxLaw5
import Derived.Test.YtjnfnocmjpboiaaOwnMore
namespace Go.Proofs.Ytjnfnocmjpboiaa
open Go.RowKit
open CrcMath BoxMath

theorem turned_near (l : List Nat) (f b : Nat) : Near l (turned l f b 32) f := by
  refine ⟨turned_len l f b 32, fun p hp hd => ?_⟩
  rw [turned_bit l f b 32 p hp] at hd
  simp at hd
  exact ⟨hd.1.1, hd.1.2⟩

set_option maxRecDepth 10000 in
set_option maxHeartbeats 4000000 in
theorem boxBurst_small (a : Option Addr) (n c at_ mask : Nat) (cs : List (Nat × List Nat)) (w : World) (hn : cs.length = n) (h : Chunks w a cs) (hg : greatB cs = false) (hat : at_ < 65536) (_hbu : mask < 4294967296) :
    Calls Try.prog 5 #[.slice a n c, .int .u16 (at_ : Int), .int .u32 (mask : Int)] w fun e w' => e = .returned (.bool true) ∧ Below w.heap.size w w' := by
  have HAW := Lib.hid (awake_any w)
  have HGR := Lib.hid (fun (V : World) (hV : Below w.heap.size w V) => great_any a n c cs V hn (h.below hV))
  rw [hg] at HGR
  obtain ⟨h12, h100, hd⟩ := small_of hg
  have h32 : ∀ c ∈ cs, c.2.length < 4294967296 := fun c hc => by have := h100 c hc; omega
  have HP := Lib.hid (fun (V : World) (hV : Below w.heap.size w V) => lawPack_any a n c cs V hn (by omega) (by omega) (h.below hV))
  have hbox := box_lt (chunks_lt2 h)
  have hbl : (boxOf cs).length = 36 + 18 * n + (dataOf cs).length := by rw [boxOf_len, hn]
  obtain ⟨f, hf⟩ : ∃ f, f = at_ % (8 * (boxOf cs).length) := ⟨_, rfl⟩
  have hfl : f < 8 * (boxOf cs).length := by rw [hf]; exact Nat.mod_lt _ (by omega)
  have hfi : (at_ : Int) % (8 * ((boxOf cs).length : Int)) = (f : Int) := by rw [hf]; rfl
  have hnear := turned_near (boxOf cs) f mask
  have hMlt := turned_lt hbox f mask 32
  have hrt := near_right (m := turned (boxOf cs) f mask 32) (show cs.length < 65536 by omega) h32 (by rw [turned_len]; omega) hbox hMlt hnear
  obtain ⟨ps, hop, hpl, hps⟩ := opened_near (show cs.length < 65536 by omega) h32 hbox hMlt hnear
  have HPS : Hid (∀ i c, cs[i]? = some c → ps[i]? = some ({ kind := c.1, at_ := ((18 + 9 * n + (dataOf (cs.take i)).length : Nat) : Int), whole := decide (((turned (boxOf cs) f mask 32).drop (18 + 9 * n + (dataOf (cs.take i)).length)).take c.2.length = c.2), data := if ((turned (boxOf cs) f mask 32).drop (18 + 9 * n + (dataOf (cs.take i)).length)).take c.2.length = c.2 then c.2 else [] } : Part)) := fun i c h => by rw [← hn]; exact hps i c h
  have HDA : Hid (∀ (i : Nat) (c : Nat × List Nat), cs[i]? = some c → ((boxOf cs).drop (18 + 9 * n + (dataOf (cs.take i)).length)).take c.2.length = c.2) := fun i c h => by rw [← hn]; exact data_at h
  have HDE : Hid (∀ (i : Nat) (c : Nat × List Nat), cs[i]? = some c → (dataOf (cs.take i)).length + c.2.length ≤ (dataOf cs).length) := fun i c h => data_end h
  obtain ⟨C, hC⟩ : ∃ C, C = turned (boxOf cs) f mask := ⟨_, rfl⟩
  have HC := Lib.hid hC
  rw [← hC] at hrt hop hMlt HPS hnear
  have HMlen : Hid ((C 32).length = (boxOf cs).length) := hnear.len
  have HO := Lib.hid (fun (A : Option Addr) (cc : Nat) (V : World) (h1 : (boxOf cs).length ≤ cc) (h2 : cc ≤ maxLen) (t : Txt V A (C 32)) => open_any A cc (C 32) V (by rw [HMlen.out]; exact h1) h2 (by rw [HMlen.out]; omega) t)
  have HR := Lib.hid (fun (A : Option Addr) (cc : Nat) (V : World) (h1 : (boxOf cs).length ≤ cc) (h2 : cc ≤ maxLen) (t : Txt V A (C 32)) => rightBox_any A cc (C 32) V (by rw [HMlen.out]; exact h1) h2 (by rw [HMlen.out]; omega) t)
  rw [hop, HMlen.out] at HO
  rw [hrt, HMlen.out] at HR
  have HPL : Hid (ps.length = n) := by show _ = _; rw [hpl, hn]
  have HLB := Lib.hid hbox
  obtain ⟨D, hD⟩ : ∃ D : Nat → Nat, D = fun k => (dataOf (cs.take k)).length := ⟨_, rfl⟩
  have HD := Lib.hid hD
  have HD0 : Hid (D 0 = 0) := by show _ = _; rw [hD]; rfl
  have HDL : Hid (∀ k, D k ≤ (dataOf cs).length) := fun k => by rw [hD]; exact data_le cs k
  have HN := Lib.hid hn
  have HX := Lib.hid h
  have H100 := Lib.hid h100
  have HML := Lib.hid hMlt
  have hn12 : n ≤ 12 := by omega
  have hpos : 0 < (boxOf cs).length := by omega
  have hle : (boxOf cs).length ≤ 2000 := by omega
  have HBL := Lib.hid hbl
  have HDC : Hid ((dataOf cs).length ≤ 1200) := hd
  clear hg h h100 h32 hD hn hbox hbl hf hrt hop hpl hps hnear hMlt hC h12 hd
  generalize (dataOf cs).length = dl at *
  generalize boxOf cs = B at *
  go_enter Try.func5, Try.ntmps5
  go_wp2_with fail
  refine HAW.out.mono ?_
  rintro e w1 ⟨rfl, hb1⟩
  go_wp2_with fail
  refine (HGR.out _ hb1).mono ?_
  rintro e w' ⟨rfl, rfl⟩
  go_wp2_with fail
  refine (HP.out _ hb1).mono ?_
  rintro e w2 ⟨v2, rfl, ho2, hb2w⟩
  obtain ⟨A2, c2, rfl, hc2, hm2, t2⟩ := ho2.txt
  have hbw2 := hb1.trans (hb2w.mono hb1.size)
  have HW2 := Lib.hid hbw2
  have hba := (Below.refl w2.heap.size w2).alloc (Nat.le_refl _) (.cells #[] 5)
  have tA := t2.below hba
  have T2 := Lib.hid t2
  clear hb1 hb2w ho2 t2 hbw2
  go_wp2_with (at_builtin; refine stop ?_)
  refine unstop (wpList_appendB rfl _ _ rfl rfl (OwnB.new (Nat.le_refl _)) rfl rfl tA (by simp; omega) (by simp) ?_)
  intro v3 w3 ho3 hg3 _
  rw [List.nil_append] at ho3
  have hb3 := below_appendB hba (OwnB.new (Nat.le_refl _)) (Nat.le_refl _) hg3
  obtain ⟨g, c3, rfl, hc3, hcm3, hg3', hg4⟩ := ho3.form hpos
  have HO0 : Hid (OwnB w3 w2.heap.size (.slice (some ⟨g, 0, none⟩) B.length c3) (C 0)) := by show OwnB _ _ _ _; rw [HC.out]; exact ho3
  have HB30 := Lib.hid hb3
  clear ho3 hb3 hba tA hg3
  go_wp2_with fail
  go_loopw [9, 10] (fun i _ wr => ∃ k : Nat, k ≤ 32 ∧ i = .int .i64 k ∧ OwnB wr w2.heap.size (.slice (some ⟨g, 0, none⟩) B.length c3) (C k) ∧ Below w2.heap.size w2 wr) (fun i _ _ => 32 - (intOf i).toNat)
  case atStart => exact ⟨0, by omega, rfl, HO0.out, HB30.out⟩
  case round =>
    clear HO0 HB30
    obtain ⟨k, hk, rfl, hownr, hbr⟩ := hrel
    by_cases hk32 : k < 32
    · have eA : ((mask / 2 ^ k : Nat) : Int) = (mask : Int) / 2 ^ k := by simp
      have hclen : (C k).length = B.length := by rw [HC.out]; exact turned_len B f mask k
      obtain ⟨q, hq⟩ : ∃ q, q = (f + k) / 8 := ⟨_, rfl⟩
      obtain ⟨r, hr⟩ : ∃ r, r = (f + k) % 8 := ⟨_, rfl⟩
      have hr8 : r < 8 := by omega
      have hqi : ((f : Int) + (k : Int)) / 8 = (q : Int) := by omega
      have hri : ((f : Int) + (k : Int)) % 8 = (r : Int) := by omega
      have hqt : ((f : Int) + (k : Int)).tdiv 8 = (q : Int) := by rw [Int.tdiv_eq_ediv_of_nonneg (by omega)]; exact hqi
      have hrt : ((f : Int) + (k : Int)).tmod 8 = (r : Int) := by rw [Int.tmod_eq_emod_of_nonneg (by omega)]; exact hri
      by_cases hz : mask / 2 ^ k % 2 = 1
      · have hA : ((mask : Int) / 2 ^ k).tmod 2 = 1 := by rw [← eA, Int.tmod_eq_emod_of_nonneg (Int.natCast_nonneg _)]; omega
        clear eA
        by_cases hin : f + k < 8 * B.length
        · have hql : q < B.length := by omega
          have hCs : C (k + 1) = (C k).set q ((C k).getD q 0 ^^^ 2 ^ r) := by
            rw [HC.out, hq, hr]; show (if _ then _ else _) = _; rw [if_pos ⟨hz, hin⟩]
          have HCs := Lib.hid hCs
          clear hCs
          obtain ⟨u, hu⟩ : ∃ u, (C k)[q]? = some u := ⟨(C k)[q]'(by omega), List.getElem?_eq_getElem _⟩
          have hu8 := hownr.1 u (List.mem_of_getElem? hu)
          have hug : (C k).getD q 0 = u := by rw [List.getD_eq_getElem?_getD, hu]; rfl
          rw [hug] at HCs
          have c0 := hownr.cell hu
          have f0 := hownr.thawed q
          have hp := pow_lt_256 hr8
          obtain ⟨p, hpe⟩ : ∃ p, p = 2 ^ r := ⟨_, rfl⟩
          have hpc : (2 : Int) ^ r = (p : Int) := by rw [hpe]; simp
          rw [← hpe] at HCs hp
          have hx := u8_xor_nat u p hu8 hp
          have hsh : IntKind.u8.wrap ((2 : Int) ^ r) = (p : Int) := by
            rw [IntKind.wrap_u8', hpc]; omega
          have hown2 := (hownr.set q (u ^^^ p) (Nat.xor_lt_two_pow (n := 8) hu8 hp)).drew
          have hb3 := (hbr.setCell (p := ⟨g, q, none⟩) hg3' (.int .u8 ((u ^^^ p : Nat) : Int))).drew
          rw [← HCs.out] at hown2
          clear hpe HCs
          have hfk : (f : Int) + (k : Int) < 8 * (B.length : Int) := by omega
          have hqw : IntKind.i64.wrap (q : Int) = (q : Int) := IntWalk.i64_in _ (by omega)
          clear hq hr hug hu hclen hownr
          go_wp2_with fail
          go_region_with (fail)
          go_wp2_with fail
          go_roundw
          case rel => rw [hx]; exact ⟨k + 1, by omega, by go_num, hown2, hb3⟩
          case measure => simp [intOf]; omega
        · have HCs : Hid (C (k + 1) = C k) := by
            show _ = _; rw [HC.out]; show (if _ then _ else _) = _; rw [if_neg (fun h => hin h.2)]
          have hfk : ¬ (f : Int) + (k : Int) < 8 * (B.length : Int) := by omega
          clear hq hr hclen
          go_wp2
          go_roundw
          case rel => exact ⟨k + 1, by omega, by go_num, by rw [HCs.out]; exact hownr, hbr⟩
          case measure => simp [intOf]; omega
      · have hz0 : mask / 2 ^ k % 2 = 0 := by omega
        have hA : ((mask : Int) / 2 ^ k).tmod 2 = 0 := by rw [← eA, Int.tmod_eq_emod_of_nonneg (Int.natCast_nonneg _)]; omega
        clear eA
        have HCs : Hid (C (k + 1) = C k) := by
          show _ = _; rw [HC.out]; show (if _ then _ else _) = _; rw [if_neg (fun h => hz h.1)]
        clear hq hr hclen hz0 hz
        go_wp2_with fail
        go_roundw
        case rel => exact ⟨k + 1, by omega, by go_num, by rw [HCs.out]; exact hownr, hbr⟩
        case measure => simp [intOf]; omega
    · obtain rfl : k = 32 := by omega
      have tM := hownr.read
      have HO3 := Lib.hid (HO.out (some ⟨g, 0, none⟩) c3 wr hc3 hcm3 tM)
      have TM := Lib.hid tM
      have HB3 := Lib.hid hbr
      have HC2 := Lib.hid hc2
      have HC3 := Lib.hid hc3
      clear hownr hbr tM HO
      go_wp2_with fail
      refine HO3.out.mono ?_
      rintro e w4 ⟨hb4, v4, rfl, hp⟩
      obtain ⟨a4, c4, rfl, hv1, hv2, hat⟩ := hp.form
      have HAT := Lib.hid hat
      have HB4 := Lib.hid hb4
      rw [HPL.out] at hv1 ⊢
      clear hp hat hb4
      go_wp2_with fail
      have HTMs : Hid (∀ V, Below wr.heap.size wr V → Txt V (some ⟨g, 0, none⟩) (C 32)) := fun V hV => TM.out.below hV
      have HRR := Lib.hid (fun V (hV : Below wr.heap.size wr V) => HR.out (some ⟨g, 0, none⟩) c3 V HC3.out hcm3 (TM.out.below hV))
      have HB24 := Lib.hid (HB3.out.trans (HB4.out.mono HB3.out.size))
      have hbpos : 36 + 18 * n ≤ B.length := by have := HBL.out; omega
      clear TM HO3 HR
      generalize (some ⟨g, 0, none⟩ : Option Addr) = Ab at *
      generalize C 32 = M at *
      go_loopw [13, 14, 15, 16] (fun p i _ _ wt => ∃ m : Nat, m ≤ n ∧ i = .int .i64 m ∧ p = .int .i64 ((18 + 9 * n + D m : Nat) : Int) ∧ Below w4.heap.size w4 wt) (fun _ i _ _ _ => n - (intOf i).toNat)
      case atStart => exact ⟨0, by omega, rfl, by rw [HD0.out]; go_num, Below.refl _ _⟩
      case round =>
        obtain ⟨m, hm, rfl, rfl, hb⟩ := hrel
        have hdk := HDL.out m
        by_cases hmn : m < n
        · obtain ⟨⟨kd, l⟩, hck⟩ : ∃ x, cs[m]? = some x := ⟨cs[m]'(by rw [HN.out]; exact hmn), List.getElem?_eq_getElem _⟩
          have hll : l.length ≤ 100 := H100.out _ (List.mem_of_getElem? hck)
          obtain ⟨hkd, b, off, A, c', rfl, hc0, hc1, hlc, hcc, tx0⟩ := HX.out m kd l hck
          obtain ⟨_, bm, om, dv, rfl, hg0, hg1, hg2, hg3, hod⟩ := HAT.out m _ (HPS.out m _ hck)
          have hs3 := Nat.le_trans HW2.out.size HB24.out.size
          have hb3w : Below w.heap.size w wr := (HW2.out.trans (HB24.out.mono HW2.out.size)).trans (hb.mono hs3)
          have hb2w : Below w2.heap.size w2 wr := HB24.out.trans (hb.mono HB24.out.size)
          have HF : Hid (∀ V, Below w4.heap.size w4 V → V.cell? ⟨b, off + m * 2, none⟩ = some (.int .u8 (kd : Int)) ∧ V.cell? ⟨b, off + m * 2 + 1, none⟩ = some (.slice A l.length c') ∧ Txt V A l) := fun V hV => by
            have h3w : Below w.heap.size w V := (HW2.out.trans (HB24.out.mono HW2.out.size)).trans (hV.mono hs3)
            exact ⟨(h3w.cell (p := ⟨b, off + m * 2, none⟩) (lt_of_cell hc0)).trans hc0, (h3w.cell (p := ⟨b, off + m * 2 + 1, none⟩) (lt_of_cell hc1)).trans hc1, tx0.below h3w⟩
          have hltl := tx0.1
          have tb := T2.out.below hb2w
          have tmm := HTMs.out _ (HB4.out.trans (hb.mono HB4.out.size))
          have hda := HDA.out m _ hck
          have hde := HDE.out m _ hck
          have HS : Hid (D (m + 1) = D m + l.length) := by show _ = _; rw [HD.out]; show (dataOf (cs.take (m + 1))).length = _; rw [data_succ hck, List.length_append]
          have hDk : (dataOf (cs.take m)).length = D m := by rw [HD.out]
          simp only [hDk] at hda hg2 hg3 hod hde
          have hbl := HBL.out
          have hdc := HDC.out
          have hpb : 18 + 9 * n + D m + l.length ≤ B.length := by omega
          have hpm : 18 + 9 * n + D m ≤ 100000 := by omega
          have HQ : Hid (18 + 9 * n + D (m + 1) = 18 + 9 * n + D m + l.length) := by show _ = _; rw [HS.out]; omega
          clear hck hc0 hc1 tx0 hDk hde hbl hdc hdk
          generalize D m = d at *
          generalize 18 + 9 * n + d = p at *
          have hMl := HMlen.out
          obtain ⟨sM, hsM⟩ : ∃ sM, sM = (M.drop p).take l.length := ⟨_, rfl⟩
          have hsl : sM.length = l.length := by rw [hsM, List.length_take, List.length_drop]; omega
          have hslt : ∀ c ∈ sM, c < 256 := by rw [hsM]; exact sub_lt HML.out _ _
          obtain ⟨As, hs1, ts⟩ := run_sub2 c2 HC2.out hm2 p l.length hpb l hda tb (p : Int) ((p : Int) + (l.length : Int)) rfl (by omega)
          obtain ⟨At, hs2, tt⟩ := run_sub2 c3 (by rw [hMl]; exact HC3.out) hcm3 p l.length (by omega) sM hsM.symm tmm (p : Int) ((p : Int) + (l.length : Int)) rfl (by omega)
          rw [hMl, hsl] at hs2
          have k3 := fun m => run_convert_str (w := wr.drewN m) ts (c2 - p)
          have k4 := fun m => run_convert_str (w := wr.drewN m) tt (c3 - p)
          rw [hsl] at k4
          have hle100 : l.length ≤ 100 := hll
          rw [← hsM] at hg3 hod
          have HB := Lib.hid hb
          clear hda ts tt tb tmm hsM hb hsl hMl
          by_cases hsame : sM = l
          · subst hsame
            obtain ⟨Am, cm, e2, hlm, hcm, tm⟩ := hod.txt
            simp only [if_true] at tm hlm e2
            subst e2
            simp only at hg3
            have HG : Hid (∀ V, Below w4.heap.size w4 V → V.cell? ⟨bm, om + m * 4, none⟩ = some (.int .u8 (kd : Int)) ∧ V.cell? ⟨bm, om + m * 4 + 1, none⟩ = some (.slice Am sM.length cm) ∧ V.cell? ⟨bm, om + m * 4 + 2, none⟩ = some (.int .i64 (p : Int)) ∧ V.cell? ⟨bm, om + m * 4 + 3, none⟩ = some (.bool true) ∧ Txt V Am sM) := fun V hV =>
              ⟨(hV.cell (p := ⟨bm, om + m * 4, none⟩) (lt_of_cell hg0)).trans hg0, (hV.cell (p := ⟨bm, om + m * 4 + 1, none⟩) (lt_of_cell hg1)).trans hg1, (hV.cell (p := ⟨bm, om + m * 4 + 2, none⟩) (lt_of_cell hg2)).trans hg2, (hV.cell (p := ⟨bm, om + m * 4 + 3, none⟩) (lt_of_cell hg3)).trans hg3, tm.below hV⟩
            have e1 := (HF.out _ HB.out).2.1
            clear hod tm hltl hslt hg0 hg1 hg2 hg3
            go_wp2_with fail
            go_quiet (fail)
            go_wp2_with fail
            have hbq := below_drewN HB.out nq
            clear e1 k3 k4 hs1 hs2
            generalize wr.drewN nq = wq at *
            obtain ⟨e0, e1, tx⟩ := HF.out _ hbq
            obtain ⟨g0, g1, g2, g3, tm⟩ := HG.out _ hbq
            have k1 := fun m => run_convert_str (w := wq.drewN m) tx c'
            have k2 := fun m => run_convert_str (w := wq.drewN m) tm cm
            have HBQ := Lib.hid hbq
            clear tx tm hbq
            go_quiet (fail)
            go_wp2_with fail
            go_roundw
            case rel => exact ⟨m + 1, by omega, by go_num, by rw [HQ.out]; go_num, below_drewN HBQ.out _⟩
            case measure => simp [intOf]; omega
          · obtain ⟨Am, cm, e2, hlm, hcm, tm⟩ := hod.txt
            simp only [if_neg hsame, List.length_nil] at e2
            subst e2
            have hdt : decide (sM = l) = false := by rw [decide_eq_false_iff_not]; exact hsame
            simp only [hdt] at hg3
            have hne : ¬ strOf l = strOf sM := fun e => hsame (strOf_inj hltl hslt e).symm
            have HG : Hid (∀ V, Below w4.heap.size w4 V → V.cell? ⟨bm, om + m * 4, none⟩ = some (.int .u8 (kd : Int)) ∧ V.cell? ⟨bm, om + m * 4 + 1, none⟩ = some (.slice Am 0 cm) ∧ V.cell? ⟨bm, om + m * 4 + 2, none⟩ = some (.int .i64 (p : Int)) ∧ V.cell? ⟨bm, om + m * 4 + 3, none⟩ = some (.bool false)) := fun V hV =>
              ⟨(hV.cell (p := ⟨bm, om + m * 4, none⟩) (lt_of_cell hg0)).trans hg0, (hV.cell (p := ⟨bm, om + m * 4 + 1, none⟩) (lt_of_cell hg1)).trans hg1, (hV.cell (p := ⟨bm, om + m * 4 + 2, none⟩) (lt_of_cell hg2)).trans hg2, (hV.cell (p := ⟨bm, om + m * 4 + 3, none⟩) (lt_of_cell hg3)).trans hg3⟩
            have e1 := (HF.out _ HB.out).2.1
            have hbe := strOf_toList_ne hne
            clear hod tm hdt hltl hslt hg0 hg1 hg2 hg3 hsame
            go_wp2_with fail
            go_quiet (fail)
            go_wp2_with fail
            have hbq := below_drewN HB.out nq
            clear e1 k3 k4 hs1 hs2
            generalize wr.drewN nq = wq at *
            obtain ⟨e0, e1, tx⟩ := HF.out _ hbq
            obtain ⟨g0, g1, g2, g3⟩ := HG.out _ hbq
            have HBQ := Lib.hid hbq
            clear tx hbq
            go_quiet (fail)
            go_wp2_with fail
            go_roundw
            case rel => exact ⟨m + 1, by omega, by go_num, by rw [HQ.out]; go_num, below_drewN HBQ.out _⟩
            case measure => simp [intOf]; omega
        · obtain rfl : m = n := by omega
          have hMl := HMlen.out
          obtain ⟨t, ht⟩ : ∃ t : Bool, t = decide (M = B) := ⟨_, rfl⟩
          have HQ : Hid (((strOf M).toList == (strOf B).toList) = t) := by
            show _ = _
            by_cases hMB : M = B
            · rw [ht, hMB]; simp
            · rw [ht, strOf_toList_ne (fun e => hMB (strOf_inj HML.out HLB.out e))]; simp [hMB]
          rw [← ht] at HRR
          have hbM := HB4.out.trans (hb.mono HB4.out.size)
          have hbB := HB24.out.trans (hb.mono HB24.out.size)
          have HBM := Lib.hid hbM
          have HBB := Lib.hid hbB
          have HKM : Hid (∀ V, Below wr.heap.size wr V → (convert 25 9 (.slice Ab B.length c3)).run Try.prog V = .ok (.string (strOf M)) V) := fun V hV => by
            have h := run_convert_str ((HTMs.out _ HBM.out).below hV) c3
            rw [HMlen.out] at h
            exact h
          have HKB : Hid (∀ V, Below wr.heap.size wr V → (convert 25 9 (.slice A2 B.length c2)).run Try.prog V = .ok (.string (strOf B)) V) := fun V hV => run_convert_str ((T2.out.below HBB.out).below hV) c2
          have hd := (Below.refl wr.heap.size wr).drew
          have HD1 := Lib.hid hd
          have km := HKM.out _ hd
          have kb := HKB.out _ hd
          have q := HQ.out
          clear hb hbM hbB hd ht hMl
          go_wp2_with fail
          go_region_with (first
            | (go_at_call 14; refine (HRR.out _ (HBM.out.trans (HD1.out.mono HBM.out.size))).mono ?_; rintro e w6 ⟨rfl, hb6⟩; have hb7 := HD1.out.trans (hb6.mono HD1.out.size); have km2 := HKM.out _ hb7; have kb2 := HKB.out _ hb7))
          all_goals
            go_wp2_with fail
            go_ret
            have hbx := HW2.out.trans ((HBB.out.trans (hb7.mono HBB.out.size)).mono HW2.out.size)
            exact ⟨rfl, hbx⟩

set_option maxRecDepth 10000 in
set_option maxHeartbeats 2000000 in
theorem boxBurst_all (a : Option Addr) (n c at_ mask : Nat) (cs : List (Nat × List Nat)) (w : World) (hn : cs.length = n) (h : Chunks w a cs) (hat : at_ < 65536) (hbu : mask < 4294967296) :
    Calls Try.prog 5 #[.slice a n c, .int .u16 (at_ : Int), .int .u32 (mask : Int)] w fun e w' => e = .returned (.bool true) ∧ Below w.heap.size w w' := by
  by_cases hg : greatB cs = true
  · have HAW := Lib.hid (awake_any w)
    have HGR := Lib.hid (fun (V : World) (hV : Below w.heap.size w V) => great_any a n c cs V hn (h.below hV))
    rw [hg] at HGR
    go_enter Try.func5, Try.ntmps5
    go_wp2_with fail
    refine HAW.out.mono ?_
    rintro e w1 ⟨rfl, hb1⟩
    go_wp2_with fail
    refine (HGR.out _ hb1).mono ?_
    rintro e w' ⟨rfl, rfl⟩
    go_wp2_with fail
    go_ret
    exact ⟨rfl, hb1⟩
  · exact boxBurst_small a n c at_ mask cs w hn h (by rw [Bool.not_eq_true] at hg; exact hg) hat hbu

end Go.Proofs.Ytjnfnocmjpboiaa
