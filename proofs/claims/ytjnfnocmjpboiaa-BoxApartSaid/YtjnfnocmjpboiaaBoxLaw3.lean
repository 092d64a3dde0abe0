/-
  Layer 7 (box): the law BoxBack.
-/
import Derived.Test.YtjnfnocmjpboiaaBoxLaw2
namespace Go.Proofs.Ytjnfnocmjpboiaa
open Go.RowKit
open CrcMath BoxMath

theorem run_sub2 {w : World} {a : Option Addr} {l : List Nat} (cap : Nat) (hcap : l.length ≤ cap) (hcap2 : cap ≤ maxLen) (lo q : Nat) (h2 : lo + q ≤ l.length) (m : List Nat) (hm : (l.drop lo).take q = m) (ht : Txt w a l) (loI hiI : Int) (e1 : loI = (lo : Int)) (e2 : hiI = ((lo + q : Nat) : Int)) :
    ∃ A, (∀ W : World, (Instr.slice 25 (.slice a l.length cap) (some (.int .i64 loI)) (some (.int .i64 hiI)) none).run Try.prog W = .ok (.slice A m.length (cap - lo)) W) ∧ Txt w A m := by
  obtain ⟨A, h, t⟩ := run_sub l.length cap rfl hcap hcap2 lo (lo + q) (by omega) h2 ht loI hiI e1 e2
  have e : lo + q - lo = q := by omega
  rw [e, hm] at t
  have hl : m.length = q := by rw [← hm, List.length_take, List.length_drop]; omega
  rw [e] at h
  rw [hl]
  exact ⟨A, h, t⟩

theorem box_row_sum {cs : List (Nat × List Nat)} {i : Nat} {c : Nat × List Nat} (h : cs[i]? = some c) : ((boxOf cs).drop (10 + 9 * i + 5)).take 4 = le (sum c.2) := by
  have hi := (List.getElem?_eq_some_iff.1 h).1
  have h1 := row_sum h
  have e : (boxOf cs).drop 10 = tableOf cs ++ ([0, 0, 0, 0] ++ (dataOf cs ++ ([0, 0, 0, 0] ++ (tableOf cs ++ fixedOf cs.length)))) := by
    unfold boxOf
    exact List.drop_left' (fixedOf_len _)
  rw [show 10 + 9 * i + 5 = 10 + (9 * i + 5) from by omega, ← List.drop_drop, e, List.drop_append_of_le_length (by rw [tableOf_len]; omega), List.take_append_of_le_length (by rw [List.length_drop, tableOf_len]; omega)]
  exact h1

/-- The parts of a box. -/
def partsBox (cs : List (Nat × List Nat)) : List Part := partsOf (boxOf cs) (tableOf cs) (18 + 9 * cs.length : Nat) cs.length

theorem partsBox_at {cs : List (Nat × List Nat)} (hl : ∀ c ∈ cs, c.2.length < 4294967296) {i : Nat} {c : Nat × List Nat} (h : cs[i]? = some c) :
    (partsBox cs)[i]? = some { kind := c.1, data := c.2, at_ := ((18 + 9 * cs.length + (dataOf (cs.take i)).length : Nat) : Int), whole := true } := by
  have hi := (List.getElem?_eq_some_iff.1 h).1
  unfold partsBox partsOf
  rw [List.getElem?_map, List.getElem?_range hi, Option.map_some, whole_box hl h]
theorem partsBox_len (cs : List (Nat × List Nat)) : (partsBox cs).length = cs.length := partsOf_len _ _ _ _

set_option maxRecDepth 10000 in
set_option maxHeartbeats 4000000 in
theorem boxBack_small (a : Option Addr) (n c : Nat) (cs : List (Nat × List Nat)) (w : World) (hn : cs.length = n) (h : Chunks w a cs) (hg : greatB cs = false) :
    Calls Try.prog 4 #[.slice a n c] w fun e w' => e = .returned (.bool true) ∧ Below w.heap.size w w' := by
  have HAW := Lib.hid (awake_any w)
  have HGR := Lib.hid (fun (V : World) (hV : Below w.heap.size w V) => great_any a n c cs V hn (h.below hV))
  rw [hg] at HGR
  obtain ⟨h12, h100, hd⟩ := small_of hg
  have h32 : ∀ c ∈ cs, c.2.length < 4294967296 := fun c hc => by have := h100 c hc; omega
  have HP := Lib.hid (fun (V : World) (hV : Below w.heap.size w V) => pack_any a n c cs V hn (by omega) (by omega) (h.below hV))
  have HO := Lib.hid (fun (A : Option Addr) (C : Nat) (V : World) (h1 : (boxOf cs).length ≤ C) (h2 : C ≤ maxLen) (t : Txt V A (boxOf cs)) => open_any A C (boxOf cs) V h1 h2 (by rw [boxOf_len]; omega) t)
  rw [opened_box (show cs.length < 65536 by omega)] at HO
  have HPA : Hid (∀ (i : Nat) (c : Nat × List Nat), cs[i]? = some c → (partsBox cs)[i]? = some { kind := c.1, data := c.2, at_ := ((18 + 9 * n + (dataOf (cs.take i)).length : Nat) : Int), whole := true }) := fun i c h => by rw [← hn]; exact partsBox_at h32 h
  have HPL : Hid ((partsBox cs).length = n) := by show _ = _; rw [partsBox_len, hn]
  have HO' : Hid (∀ (A : Option Addr) (C : Nat) (V : World), (boxOf cs).length ≤ C → C ≤ maxLen → Txt V A (boxOf cs) → Calls Try.prog 15 #[.slice A (boxOf cs).length C] V (OpenIs V (some (partsBox cs)))) := HO.out
  have HBL : Hid ((boxOf cs).length = 36 + 18 * n + (dataOf cs).length) := by show _ = _; rw [boxOf_len, hn]
  have HDA : Hid (∀ (i : Nat) (c : Nat × List Nat), cs[i]? = some c → ((boxOf cs).drop (18 + 9 * n + (dataOf (cs.take i)).length)).take c.2.length = c.2) := fun i c h => by rw [← hn]; exact data_at h
  have HRS : Hid (∀ (i : Nat) (c : Nat × List Nat), cs[i]? = some c → ((boxOf cs).drop (10 + 9 * i + 5)).take 4 = le (sum c.2)) := fun i c h => box_row_sum h
  obtain ⟨D, hD⟩ : ∃ D : Nat → Nat, D = fun k => (dataOf (cs.take k)).length := ⟨_, rfl⟩
  have HD := Lib.hid hD
  have HD0 : Hid (D 0 = 0) := by show _ = _; rw [hD]; rfl
  have HDL : Hid (∀ k, D k ≤ (dataOf cs).length) := fun k => by rw [hD]; exact data_le cs k
  have HDn : Hid (D n = (dataOf cs).length) := by show _ = _; rw [hD]; show (dataOf (cs.take n)).length = _; rw [List.take_of_length_le (by rw [hn]; exact Nat.le_refl _)]
  have HN := Lib.hid hn
  have HX := Lib.hid h
  have H100 := Lib.hid h100
  have hn12 : n ≤ 12 := by omega
  clear hg h h100 h32 HO hD hn
  generalize boxOf cs = B at *
  generalize partsBox cs = ps at *
  generalize (dataOf cs).length = dl at *
  go_enter Try.func4, Try.ntmps4
  go_wp2_with fail
  refine HAW.out.mono ?_
  rintro e w1 ⟨rfl, hb1⟩
  go_wp2_with fail
  refine (HGR.out _ hb1).mono ?_
  rintro e w' ⟨rfl, rfl⟩
  go_wp2_with fail
  refine (HP.out _ hb1).mono ?_
  rintro e w2 ⟨v2, rfl, ho2, hb2⟩
  obtain ⟨A2, c2, rfl, hc2, hm2, t2⟩ := ho2.txt
  have hbw2 := hb1.trans (hb2.mono hb1.size)
  have HO2 := Lib.hid (HO'.out A2 c2 w2 hc2 hm2 t2)
  have T2 := Lib.hid t2
  have HW2 := Lib.hid hbw2
  have HC2 := Lib.hid hc2
  clear hb1 hb2 ho2 t2 hbw2 hc2
  go_wp2_with fail
  refine HO2.out.mono ?_
  rintro e w3 ⟨hb3, v3, rfl, hp⟩
  obtain ⟨a3, c3, rfl, hv1, hv2, hat⟩ := hp.form
  have HAT := Lib.hid hat
  have HB3 := Lib.hid hb3
  rw [HPL.out] at hv1 ⊢
  have hbl := HBL.out
  have hbl2 : B.length ≤ 2000 := by omega
  have HBL2 := Lib.hid hbl2
  clear hp hat hb3 hbl hbl2
  go_wp2_with fail
  go_loopw [7, 8, 9, 10] (fun p i _ _ wr => ∃ k : Nat, k ≤ n ∧ i = .int .i64 k ∧ p = .int .i64 ((18 + 9 * n + D k : Nat) : Int) ∧ Below w3.heap.size w3 wr) (fun _ i _ _ _ => n - (intOf i).toNat)
  case atStart => exact ⟨0, by omega, rfl, by rw [HD0.out]; go_num, Below.refl _ _⟩
  case round =>
    obtain ⟨k, hk, rfl, rfl, hb⟩ := hrel
    have hdk := HDL.out k
    by_cases hkn : k < n
    · obtain ⟨⟨kd, l⟩, hck⟩ : ∃ x, cs[k]? = some x := ⟨cs[k]'(by rw [HN.out]; exact hkn), List.getElem?_eq_getElem _⟩
      have hll : l.length ≤ 100 := H100.out _ (List.mem_of_getElem? hck)
      obtain ⟨hkd, b, off, A, c', rfl, hc0, hc1, hlc, hcc, tx0⟩ := HX.out k kd l hck
      obtain ⟨_, bm, om, dv, rfl, hg0, hg1, hg2, hg3, hod⟩ := HAT.out k _ (HPA.out k _ hck)
      obtain ⟨Am, cm, rfl, hlm, hcm, tm0⟩ := hod.txt
      have hb3w : Below w.heap.size w wr := (HW2.out.trans (HB3.out.mono HW2.out.size)).trans (hb.mono (Nat.le_trans HW2.out.size HB3.out.size))
      have hb2w : Below w2.heap.size w2 wr := HB3.out.trans (hb.mono HB3.out.size)
      have e0 := (hb3w.cell (p := ⟨b, off + k * 2, none⟩) (lt_of_cell hc0)).trans hc0
      have e1 := (hb3w.cell (p := ⟨b, off + k * 2 + 1, none⟩) (lt_of_cell hc1)).trans hc1
      have g0 := (hb.cell (p := ⟨bm, om + k * 4, none⟩) (lt_of_cell hg0)).trans hg0
      have g1 := (hb.cell (p := ⟨bm, om + k * 4 + 1, none⟩) (lt_of_cell hg1)).trans hg1
      have g2 := (hb.cell (p := ⟨bm, om + k * 4 + 2, none⟩) (lt_of_cell hg2)).trans hg2
      have g3 := (hb.cell (p := ⟨bm, om + k * 4 + 3, none⟩) (lt_of_cell hg3)).trans hg3
      have tx := tx0.below hb3w
      have tm := tm0.below hb
      have tb := T2.out.below hb2w
      have k1 := fun m => run_convert_str (w := wr.drewN m) tx c'
      have k2 := fun m => run_convert_str (w := wr.drewN m) tm cm
      have hda := HDA.out k _ hck
      have hrs := HRS.out k _ hck
      have HS : Hid (D (k + 1) = D k + l.length) := by show _ = _; rw [HD.out]; show (dataOf (cs.take (k + 1))).length = _; rw [data_succ hck, List.length_append]
      have hdk1 := HDL.out (k + 1)
      rw [HS.out] at hdk1
      have hDk : (dataOf (cs.take k)).length = D k := by rw [HD.out]
      simp only [hDk] at hda g2
      clear hck hc0 hc1 hg0 hg1 hg2 hg3 tx0 tm0 hod hDk
      generalize D k = d at *
      have hbl := HBL.out
      have hpb : 18 + 9 * n + d + l.length ≤ B.length := by omega
      have hrb : 10 + 9 * k + 5 + 4 ≤ B.length := by omega
      have hpm : 18 + 9 * n + d ≤ 100000 := by omega
      have HQ : Hid (18 + 9 * n + D (k + 1) = 18 + 9 * n + d + l.length) := by show _ = _; rw [HS.out]; omega
      generalize 18 + 9 * n + d = p at *
      obtain ⟨As, hs1, ts⟩ := run_sub2 c2 HC2.out hm2 p l.length hpb l hda tb (p : Int) ((p : Int) + (l.length : Int)) rfl (by omega)
      obtain ⟨At, hs2, tt⟩ := run_sub2 c2 HC2.out hm2 (10 + 9 * k + 5) 4 hrb (le (sum l)) hrs tb (10 + 9 * (k : Int) + 5) (10 + 9 * (k : Int) + 9) (by omega) (by omega)
      clear hbl
      have hdec : decide ((B.length : Int) < (p : Int) + (l.length : Int)) = false := by rw [decide_eq_false_iff_not]; omega
      have wp1 : IntKind.i64.wrap ((p : Int) + (l.length : Int)) = (p : Int) + (l.length : Int) := IntWalk.i64_in _ (by omega)
      have wp2 : IntKind.i64.wrap (9 * (k : Int)) = 9 * (k : Int) := IntWalk.i64_in _ (by omega)
      have wp3 : IntKind.i64.wrap (10 + 9 * (k : Int)) = 10 + 9 * (k : Int) := IntWalk.i64_in _ (by omega)
      have wp4 : IntKind.i64.wrap (10 + 9 * (k : Int) + 5) = 10 + 9 * (k : Int) + 5 := IntWalk.i64_in _ (by omega)
      have wp5 : IntKind.i64.wrap (10 + 9 * (k : Int) + 9) = 10 + 9 * (k : Int) + 9 := IntWalk.i64_in _ (by omega)
      have k3 := fun m => run_convert_str (w := wr.drewN m) ts (c2 - p)
      have K4 := Lib.hid (fun V (hV : Below wr.heap.size wr V) => run_convert_str (tt.below hV) (c2 - (10 + 9 * k + 5)))
      have HSUM := Lib.hid (fun m => sum_any A c' l (wr.drewN m) (by simp only [maxLen]; omega) tx)
      have hs := sum_lt l
      have HLO := Lib.hid (fun V => refLow_any (sum l) V hs)
      have HLL : Hid ((le (sum l)).length = 4) := rfl
      clear hda hrs ts tt tx tm tb
      generalize le (sum l) = L4 at *
      generalize sum l = sm at *
      go_wp2_with fail
      go_quiet (fail)
      go_wp2_with fail
      refine (HSUM.out nq).mono ?_
      rintro e w' ⟨rfl, rfl⟩
      have hbq := below_drewN hb nq
      have hq := below_drewN (Below.refl wr.heap.size wr) nq
      have HQW := Lib.hid hq
      generalize wr.drewN nq = wq at *
      have k4a := K4.out _ HQW.out
      have k4b := K4.out _ HQW.out.drew
      clear k1 k2 k3 hdec wp1 e0 e1 g0 g1 g2 g3 hs1 hq hb
      go_wp2_with fail
      go_region_with (first
        | (go_at_call 17; refine (HLO.out _).mono ?_; rintro e w5 ⟨A5, rfl, ho5, hb5⟩; have t5 := Txt.own ho5.1 (HLL.out ▸ ho5.2); have hbq5 := (HQW.out.drew).trans (hb5.mono HQW.out.drew.size); have k4c := K4.out _ hbq5; have k5 : (convert 25 9 (.slice A5 4 4)).run Try.prog w5 = .ok (.string (strOf L4)) w5 := (by have h := run_convert_str t5 4; rw [HLL.out] at h; exact h); have hb5w := hbq.drew.trans (hb5.mono hbq.drew.size)))
      all_goals
        clear k4a k4b k4c k5 hs2
        go_wp2_with fail
        go_roundw
        case rel => exact ⟨k + 1, by omega, by go_num, by rw [HQ.out]; go_num, hb5w⟩
        case measure => simp [intOf]; omega
    · obtain rfl : k = n := by omega
      have hbl := HBL.out
      have hdn := HDn.out
      have hpq : B.length = 18 + 9 * k + D k + 18 + 9 * k := by omega
      have hpm : 18 + 9 * k + D k ≤ 100000 := by omega
      have HB4 := Lib.hid (HB3.out.trans (hb.mono HB3.out.size))
      clear hbl hdn hdk hb
      generalize 18 + 9 * k + D k = p at *
      have he : ((B.length : Int) == (p : Int) + 18 + 9 * (k : Int)) = true := by rw [beq_iff_eq]; omega
      clear hpq
      go_wp2_with fail
      go_ret
      exact ⟨rfl, HW2.out.trans (HB4.out.mono HW2.out.size)⟩

set_option maxHeartbeats 2000000 in
theorem boxBack_all (a : Option Addr) (n c : Nat) (cs : List (Nat × List Nat)) (w : World) (hn : cs.length = n) (h : Chunks w a cs) :
    Calls Try.prog 4 #[.slice a n c] w fun e w' => e = .returned (.bool true) ∧ Below w.heap.size w w' := by
  by_cases hg : greatB cs = true
  · have HAW := Lib.hid (awake_any w)
    have HGR := Lib.hid (fun (V : World) (hV : Below w.heap.size w V) => great_any a n c cs V hn (h.below hV))
    rw [hg] at HGR
    go_enter Try.func4, Try.ntmps4
    go_wp2_with fail
    refine HAW.out.mono ?_
    rintro e w1 ⟨rfl, hb1⟩
    go_wp2_with fail
    refine (HGR.out _ hb1).mono ?_
    rintro e w' ⟨rfl, rfl⟩
    go_wp2_with fail
    go_ret
    exact ⟨rfl, hb1⟩
  · exact boxBack_small a n c cs w hn h (by rw [Bool.not_eq_true] at hg; exact hg)

end Go.Proofs.Ytjnfnocmjpboiaa
