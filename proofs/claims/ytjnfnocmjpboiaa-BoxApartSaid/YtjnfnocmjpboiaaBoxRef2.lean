/-
  Layer 7 (box): the document's answer: Table, Size, Pack.
-/
import Derived.Test.YtjnfnocmjpboiaaBoxRef
import Derived.Test.YtjnfnocmjpboiaaBoxPack
namespace Go.Proofs.Ytjnfnocmjpboiaa
open Go.RowKit
open CrcMath BoxMath

set_option maxHeartbeats 2000000 in
theorem refTable_any (ka da : Option Addr) (n kc dc : Nat) (cs : List (Nat × List Nat)) (w : World) (hn : cs.length = n) (hn2 : n ≤ 1024) (hl : ∀ x ∈ cs, x.2.length ≤ 4194304)
    (hk : Txt w ka (cs.map (·.1))) (hd : Slices w da (cs.map (·.2))) :
    Calls Try.prog 31 #[.slice ka n kc, .slice da n dc] w fun e w' => ∃ v, e = .returned v ∧ OwnB w' w.heap.size v (tableOf cs) ∧ Below w.heap.size w w' := by
  have HK := Lib.hid hk
  have HD := Lib.hid hd
  have HN := Lib.hid hn
  have HL := Lib.hid hl
  clear hk hd hn hl
  have HTT : Hid (tableOf cs = rowsOf cs ++ le (sum (rowsOf cs))) := rfl
  generalize tableOf cs = T at *
  obtain ⟨R, hR⟩ : ∃ R : Nat → List Nat, R = fun k => rowsOf (cs.take k) := ⟨_, rfl⟩
  have HR := Lib.hid hR
  have hR0 : R 0 = [] := by rw [hR]; rfl
  have HR0 := Lib.hid hR0
  have HRL : Hid (∀ k, (R k).length ≤ 9 * n) := fun k => by rw [hR]; show (rowsOf (cs.take k)).length ≤ _; rw [rowsOf_len, List.length_take]; have := HN.out; omega
  clear hR hR0
  go_enter Try.func31, Try.ntmps31
  go_wp2_with fail
  go_loopw [5, 6] (fun x i wr => ∃ k : Nat, k ≤ n ∧ i = .int .i64 k ∧ OwnB wr w.heap.size x (R k) ∧ Below w.heap.size w wr) (fun _ i _ => n - (intOf i).toNat)
  case atStart => exact ⟨0, by omega, rfl, by rw [HR0.out]; exact OwnB.none_, Below.refl _ _⟩
  case round =>
    obtain ⟨k, hk, rfl, ho, hb⟩ := hrel
    by_cases hkn : k < n
    · obtain ⟨⟨kd, l⟩, hck⟩ : ∃ x, cs[k]? = some x := ⟨cs[k]'(by rw [HN.out]; exact hkn), List.getElem?_eq_getElem _⟩
      have hl4 : l.length ≤ 4194304 := HL.out _ (List.mem_of_getElem? hck)
      have hck1 : (cs.map (·.1))[k]? = some kd := by rw [List.getElem?_map, hck]; rfl
      have hkd : kd < 256 := HK.out.1 _ (List.mem_of_getElem? hck1)
      obtain ⟨kb, ko, rfl, hkc⟩ := HK.out.at_ (by simp; have := HN.out; omega)
      obtain ⟨b, off, A, c', rfl, hc2, tx0⟩ := HD.out k l (by rw [List.getElem?_map, hck]; rfl)
      have hc1 := hkc k kd hck1
      clear hkc
      have hc1' := (hb.cell (p := ⟨kb, ko + k, none⟩) (lt_of_cell hc1)).trans hc1
      have hc2' := (hb.cell (p := ⟨b, off + k, none⟩) (lt_of_cell hc2)).trans hc2
      have tx := tx0.below hb
      have HS : Hid (R (k + 1) = R k ++ rowOf (kd, l)) := by show _ = _; rw [HR.out]; exact rows_succ hck
      have hrl := HRL.out (k + 1)
      clear hck hck1
      have HSV : Hid (∀ V, Below w.heap.size w V → V.cell? ⟨kb, ko + k, none⟩ = some (.int .u8 (kd : Int)) ∧ V.cell? ⟨b, off + k, none⟩ = some (.slice A l.length c')) :=
        fun V hV => ⟨(hV.cell (p := ⟨kb, ko + k, none⟩) (lt_of_cell hc1)).trans hc1, (hV.cell (p := ⟨b, off + k, none⟩) (lt_of_cell hc2)).trans hc2⟩
      have TX0 := Lib.hid tx0
      have hrow : R k ++ rowOf (kd, l) = R k ++ [kd] ++ be 4 l.length ++ le (sum l) := by simp [rowOf]
      rw [HS.out, hrow] at hrl
      rw [hrow] at HS
      have hs := sum_lt l
      have hrk := HRL.out k
      clear hc1 hc2 tx hrow tx0
      go_wp2_with fail
      obtain ⟨u, hu⟩ : ∃ u, u = R k := ⟨_, rfl⟩
      rw [← hu] at HS ho hrl hrk
      clear hu
      have ew : IntKind.u64.wrap (l.length : Int) = (l.length : Int) := by simp [IntKind.wrap, IntKind.bits, IntKind.signed]; omega
      have HPUT : Hid (∀ V : World, Calls Try.prog 37 #[.int .u64 (IntKind.u64.wrap (l.length : Int)), .int .i64 4] V fun e w' => ∃ v', e = .returned v' ∧ OwnB w' V.heap.size v' (be 4 l.length) ∧ Below V.heap.size V w') := fun V => by rw [ew]; exact refPut_any l.length 4 V (by omega) (by omega)
      clear ew
      have HSUM := Lib.hid (fun (V : World) (hV : Below w.heap.size w V) => refSum_any A c' l V (by simp only [maxLen]; omega) (TX0.out.below hV))
      have HLOW := Lib.hid (fun (V : World) => refLow_any (sum l) V hs)
      have hB4 : (be 4 l.length).length = 4 := be_len 4 _
      have hL4 : (le (sum l)).length = 4 := rfl
      generalize be 4 l.length = B4 at *
      generalize le (sum l) = L4 at *
      generalize sum l = sm at *
      have htl : (u ++ [kd] ++ B4 ++ L4).length ≤ 1000000 := by omega
      have htl2 : (u ++ [kd] ++ B4).length + L4.length ≤ 1000000000 := by simp only [List.length_append] at htl ⊢; omega
      have htl1 : (u ++ [kd]).length + B4.length ≤ 1000000000 := by simp only [List.length_append] at htl ⊢; omega
      have HB4 := Lib.hid hB4
      have HL4 := Lib.hid hL4
      clear hB4 hL4 hs
      go_region_held3 (fun V => V.cell? ⟨kb, ko + k, none⟩ = some (.int .u8 (kd : Int)) ∧ V.cell? ⟨b, off + k, none⟩ = some (.slice A l.length c'))
        (first
          | exact HSV.out _ hbx
          | exact HSV.out _ hb.drew
          | exact HSV.out _ (hb.drew.alloc hb.size _))
        (first
          | (go_at_call 37; refine (HPUT.out _).mono ?_; rintro e w4 ⟨v4, rfl, h4, hb4⟩; obtain ⟨A4, c4, rfl, _, _, t4⟩ := h4.txt; have hbx := hb3.trans (hb4.mono hb3.size); have hby := hbx)
          | (go_at_call 38; refine (HSUM.out _ hb5).mono ?_; rintro e w6 ⟨rfl, rfl⟩; have hbx := hb5)
          | (go_at_call 17; refine (HLOW.out _).mono ?_; rintro e w7 ⟨A7, rfl, h7, hb7⟩; have hbx := hb5.trans (hb7.mono hb5.size); have hbz := hbx)
          | (have _x := h7; refine step_appendA (by rfl) _ _ (by rfl) (by rfl) (.inl (h5.later hb7)) (by rfl) HL4.out.symm (Txt.own h7.1 (HL4.out ▸ h7.2)) (by rw [HL4.out]; decide) htl2 hbz.size ?_; intro v8 w8 h8 hg8 _; have hbx := hbz.grown hg8 hbz.size (fun b hb => ((h5.later hb7).lt b hb).1); have hb8 := hbx)
          | (have _x := h4; (fail_if_success (have _y := h5)); refine step_appendA (by rfl) _ _ (by rfl) (by rfl) (.inl (h3.later hb4)) (by rfl) (by rfl) t4 (by rw [HB4.out]; decide) htl1 hby.size ?_; intro v5 w5 h5 hg5 _; have hbx := hby.grown hg5 hby.size (fun b hb => ((h3.later hb4).lt b hb).1); have hb5 := hbx)
          | ((fail_if_success (have _y := h3)); refine step_appendA (by rfl) _ _ (by rfl) (by rfl) (.inl (OwnB.drew (ho.later ((Below.refl _ wr).alloc (Nat.le_refl _) _)))) (by rfl) (by rfl) (Txt.drew (txt_one wr _ kd rfl hkd)) (by simp) (by simp; omega) (by simp; have := hb.size; omega) ?_; intro v3 w3 h3 hg3 _; have hbx := ((hb.alloc hb.size (.cells #[.int .u8 (kd : Int)] 5)).drew).grown hg3 (by simp; have := hb.size; omega) (fun b hb => (ho.lt b hb).1); have hb3 := hbx))
      rw [← HS.out] at h8
      clear h3 h4 h5 h7 t4 hg3 hg5 hg8 hb3 hb4 hb5 hb7 hby hbz
      go_wp2_with fail
      go_roundw
      case rel => exact ⟨k + 1, by omega, by go_num, h8, hb8⟩
      case measure => simp [intOf]; omega
    · obtain rfl : k = n := by omega
      have e : R k = rowsOf cs := by rw [HR.out]; show rowsOf (cs.take k) = _; rw [List.take_of_length_le (by rw [HN.out]; exact Nat.le_refl _)]
      rw [e] at ho
      clear e
      have hrl : (rowsOf cs).length ≤ 20000 := by rw [rowsOf_len]; have := HN.out; omega
      obtain ⟨a2, c2, rfl, hc2, hcm2, t2⟩ := ho.txt
      have HS := Lib.hid (refSum_any a2 c2 (rowsOf cs) wr (by simp only [maxLen]; omega) t2)
      have hsu := sum_lt (rowsOf cs)
      have hL4 : (le (sum (rowsOf cs))).length = 4 := rfl
      have HL := Lib.hid (refLow_any (sum (rowsOf cs)) wr hsu)
      generalize le (sum (rowsOf cs)) = L4 at *
      generalize sum (rowsOf cs) = sm at *
      generalize rowsOf cs = u at *
      have H2 := Lib.hid ho
      have HB2 := Lib.hid hb
      have hs2 := hb.size
      have HL4 := Lib.hid hL4
      clear ho hb t2 hL4
      go_wp2_with fail
      refine HS.out.mono ?_
      rintro e w3 ⟨rfl, rfl⟩
      go_wp2_with fail
      refine HL.out.mono ?_
      rintro e w4 ⟨a4, rfl, ho4, hb4⟩
      have h4 := H2.out.later hb4
      have hbw4 := HB2.out.trans (hb4.mono hs2)
      have t4 := Txt.own ho4.1 (HL4.out ▸ ho4.2)
      clear ho4 hb4
      go_wp2_with (at_builtin; refine stop ?_)
      refine unstop (wpList_appendB rfl (.tmp 35) (.tmp 38) rfl rfl h4 rfl HL4.out.symm t4 (by rw [HL4.out]; omega) hbw4.size ?_)
      intro v5 w5 h5 hg5 _
      have hb5 := below_appendB hbw4 h4 (Nat.le_refl _) hg5
      clear hg5
      go_wp2_with fail
      go_ret
      exact ⟨v5, rfl, by rw [HTT.out]; exact h5, hb5⟩

set_option maxHeartbeats 2000000 in
theorem refSize_any (da : Option Addr) (n dc : Nat) (cs : List (Nat × List Nat)) (w : World) (hn : cs.length = n) (hn2 : n ≤ 1024) (hl : 36 + 18 * n + (dataOf cs).length ≤ 4194304)
    (hd : Slices w da (cs.map (·.2))) :
    Calls Try.prog 29 #[.slice da n dc] w fun e w' => e = .returned (.int .i64 ((36 + 18 * n + (dataOf cs).length : Nat) : Int)) ∧ w = w' := by
  have HX := Lib.hid hd
  have HN := Lib.hid hn
  obtain ⟨D, hD⟩ : ∃ D : Nat → List Nat, D = fun k => dataOf (cs.take k) := ⟨_, rfl⟩
  have HD := Lib.hid hD
  have hD0 : D 0 = [] := by rw [hD]; rfl
  have HD0 := Lib.hid hD0
  have HDL : Hid (∀ k, (D k).length ≤ (dataOf cs).length) := fun k => by rw [hD]; exact data_le cs k
  clear hd hn hD hD0
  have HDD : Hid ((dataOf cs).length = (D n).length) := by show _ = _; rw [HD.out]; show _ = (dataOf (cs.take n)).length; rw [List.take_of_length_le (by rw [HN.out]; exact Nat.le_refl _)]
  generalize (dataOf cs).length = dl at *
  go_enter Try.func29, Try.ntmps29
  go_wp2_with fail
  go_loop [3, 4] (fun x i => ∃ k : Nat, k ≤ n ∧ i = .int .i64 k ∧ x = .int .i64 (36 + 18 * (n : Int) + ((D k).length : Nat))) (fun _ i => n - (intOf i).toNat)
  case atStart => exact ⟨0, by omega, rfl, by rw [HD0.out]; go_num⟩
  case round =>
    obtain ⟨k, hk, rfl, rfl⟩ := hrel
    have hdk := HDL.out k
    by_cases hkn : k < n
    · obtain ⟨⟨kd, l⟩, hck⟩ : ∃ x, cs[k]? = some x := ⟨cs[k]'(by rw [HN.out]; exact hkn), List.getElem?_eq_getElem _⟩
      obtain ⟨b, off, A, c', rfl, hc2, _⟩ := HX.out k l (by rw [List.getElem?_map, hck]; rfl)
      have HS : Hid ((D (k + 1)).length = (D k).length + l.length) := by show _ = _; rw [HD.out]; show (dataOf (cs.take (k + 1))).length = _; rw [data_succ hck, List.length_append]
      have hdk1 := HDL.out (k + 1)
      rw [HS.out] at hdk1
      clear hck
      generalize (D k).length = d at *
      go_wp2_with fail
      go_round
      case rel => exact ⟨k + 1, by omega, by go_num, by rw [HS.out]; go_num⟩
      case measure => simp [intOf]; omega
    · obtain rfl : k = n := by omega
      have HDk := HDD.out
      have HQ := Lib.hid HDk
      clear HDk
      generalize (D k).length = d at *
      go_wp2_with fail
      go_ret
      exact ⟨by rw [HQ.out]; go_num, rfl⟩

end Go.Proofs.Ytjnfnocmjpboiaa
