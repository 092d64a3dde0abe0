/-
  Layer 7 (box): the document's answer: Sum, Put, Low, Fixed.
-/
import Derived.Test.YtjnfnocmjpboiaaBoxHeads
namespace Go.Proofs.Ytjnfnocmjpboiaa
open Go.RowKit
open CrcMath BoxMath

set_option maxHeartbeats 1600000 in
theorem refSum_any (a : Option Addr) (cap : Nat) (l : List Nat) (w : World) (hm : l.length ≤ maxLen) (h : Txt w a l) :
    Calls Try.prog 38 #[.slice a l.length cap] w fun e w' => e = .returned (.int .u64 (sum l : Nat)) ∧ w = w' := by
  have hb := h.lt
  have hc := h.at_
  clear h
  unfold maxLen at hm
  have HM : Hid (sum l = 4294967295 - reg 4294967295 l) := rfl
  have hsl := sum_lt l
  generalize sum l = z at *
  go_enter Try.func38, Try.ntmps38
  go_wp2
  go_loop [3, 4, 5, 6] (fun y i k lo => ∃ j : Nat, j ≤ l.length ∧ i = .int .i64 j ∧ y = .int .u64 (reg 4294967295 (l.take j) : Nat)) (fun _ i _ _ => l.length - (intOf i).toNat)
  case atStart => exact ⟨0, by omega, rfl, rfl⟩
  case round =>
    obtain ⟨j, hj, rfl, rfl⟩ := hrel
    have hlt : reg 4294967295 (l.take j) < 4294967296 := reg_lt _ (by decide) fun c hc => hb c (List.mem_of_mem_take hc)
    by_cases hjl : j < l.length
    · obtain ⟨u, hu⟩ : ∃ u, l[j]? = some u := ⟨l[j], List.getElem?_eq_getElem hjl⟩
      obtain ⟨b, off, rfl, hcell⟩ := hc (by omega)
      have hcl := hcell j u hu
      clear hcell
      have hul : u < 256 := hb u (List.mem_of_getElem? hu)
      have HS : Hid (reg 4294967295 (l.take (j + 1)) = stps 8 (reg 4294967295 (l.take j) ^^^ u)) := by rw [take_snoc hu, reg_snoc]; rfl
      generalize hy : reg 4294967295 (l.take j) = y at *
      clear hy hu hc hb
      have h2 := u64_xor_nat y u (by omega) (by omega)
      have hx : y ^^^ u < 4294967296 := Nat.xor_lt_two_pow (n := 32) (by omega) (by omega)
      generalize y ^^^ u = q at *
      go_wp2
      go_loop [3, 5, 6] (fun y k lo => ∃ n : Nat, n ≤ 8 ∧ k = .int .i64 n ∧ y = .int .u64 (stps n q : Nat)) (fun _ k _ => 8 - (intOf k).toNat)
      case atStart => exact ⟨0, by omega, rfl, rfl⟩
      case round =>
        obtain ⟨n, hn, rfl, rfl⟩ := hrel
        have hlt' : stps n q < 4294967296 := stps_lt n hx
        by_cases hn8 : n < 8
        · have HT := Lib.hid (stps_snoc n q)
          generalize stps n q = t at *
          have h3 := u64_xor_nat (t / 2) 3988292384 (by omega) (by omega)
          rw [show ((t / 2 : Nat) : Int) = (t : Int) / 2 from by omega] at h3
          go_wp2
          all_goals
            go_round
            case rel =>
              refine ⟨n + 1, by omega, by go_num, ?_⟩
              rw [HT.out]; unfold stp
              first
                | (have h : ((t : Int) % 2 == 1) = true := by assumption
                   have h' : t % 2 = 1 := by have := beq_iff_eq.1 h; omega
                   rw [if_pos h', ← h3]; rfl)
                | (have h : ((t : Int) % 2 == 1) = false := by assumption
                   have h' : ¬ t % 2 = 1 := by have := beq_eq_false_iff_ne.1 h; omega
                   rw [if_neg h']; rfl)
            case measure => simp [intOf]; omega
        · have hn' : n = 8 := by omega
          subst hn'
          go_wp2
          go_round
          case rel => exact ⟨j + 1, by omega, by go_num, by rw [HS.out]⟩
          case measure => simp [intOf]; omega
    · have hj' : j = l.length := by omega
      subst hj'
      rw [List.take_length] at *
      have h4 := u64_xor_nat (reg 4294967295 l) 4294967295 (by omega) (by omega)
      have h5 : reg 4294967295 l ^^^ 4294967295 = z := by rw [HM.out]; exact (flip_xor hlt).symm
      rw [h5] at h4
      clear h5
      go_wp2
      go_ret
      exact ⟨by rw [← h4]; rfl, rfl⟩

set_option maxHeartbeats 1000000 in
theorem refPut_any (n size : Nat) (w : World) (_hn : n < 18446744073709551616) (hs : size ≤ 4) :
    Calls Try.prog 37 #[.int .u64 (n : Int), .int .i64 (size : Int)] w fun e w' => ∃ v', e = .returned v' ∧ OwnB w' w.heap.size v' (be size n) ∧ Below w.heap.size w w' := by
  obtain ⟨B, hB⟩ : ∃ B, B = be size n := ⟨_, rfl⟩
  rw [← hB]
  have HB := Lib.hid hB
  have hBl : B.length = size := by rw [hB, be_len]
  have HBL := Lib.hid hBl
  clear hB hBl
  go_enter Try.func37, Try.ntmps37
  go_wp2
  go_loopw [5, 6] (fun x k wr => ∃ (j : Nat) (i : Int), i + 1 + j = size ∧ -1 ≤ i ∧ k = .int .i64 i ∧ OwnB wr w.heap.size x (B.take j) ∧ Below w.heap.size w wr) (fun _ k _ => (intOf k + 1).toNat)
  case atStart => exact ⟨0, (size : Int) - 1, by omega, by omega, rfl, by rw [List.take_zero]; exact OwnB.none_, Below.refl _ _⟩
  case round =>
    obtain ⟨j, i, hij, hi1, rfl, hown, hbw⟩ := hrel
    by_cases hi0 : 0 ≤ i
    · obtain ⟨i', rfl⟩ := Int.eq_ofNat_of_zero_le hi0
      obtain ⟨a, c, hx, hc1, hc2, ht⟩ := hown.txt
      subst hx
      have hlen : (B.take j).length ≤ 4 := by rw [List.length_take]; omega
      obtain ⟨q, hq⟩ : ∃ q, q = n / 256 ^ i' % 256 := ⟨_, rfl⟩
      have HS : Hid (B.take (j + 1) = B.take j ++ [q]) := by
        show _ = _
        rw [HB.out, be_snoc (by omega), hq, show size - 1 - j = i' from by omega]
      have hq8 : q < 256 := by rw [hq]; exact Nat.mod_lt _ (by decide)
      have hpow : (2 : Nat) ^ (8 * i') = 256 ^ i' := by rw [show (256 : Nat) = 2 ^ 8 from rfl, ← Nat.pow_mul]
      have e1 : ((n / 2 ^ (8 * i') : Nat) : Int) = (n : Int) / 2 ^ (8 * i') := by simp
      have hsh : (n : Int) / 2 ^ (8 * i') % 256 = (q : Int) := by
        rw [← e1, hpow, hq]; rfl
      have hnn : (0 : Int) ≤ (n : Int) / 2 ^ (8 * i') := by rw [← e1]; exact Int.natCast_nonneg _
      have hsz := hbw.size
      have HT := Lib.hid (fun o => hown.later ((Below.refl _ wr).alloc (Nat.le_refl _) o))
      have HLEN := Lib.hid hlen
      clear hq hpow e1 hlen hown ht
      generalize B.take j = u at *
      go_wp2_with (at_builtin; refine stop ?_)
      refine unstop (wpList_appendA rfl (.tmp 13) (.tmp 19) rfl rfl (.inl (HT.out _)) rfl rfl (txt_one wr _ q rfl hq8) (by simp) (by have := HLEN.out; simp only [List.length_cons, List.length_nil]; omega) (by simp; omega) ?_)
      intro v2 w2 h2 hg2 hat2
      rw [← HS.out] at h2
      have hb2 : Below w.heap.size w w2 := (hbw.alloc hbw.size _).grown hg2 (by simp; omega) (fun b hb => ((HT.out (.cells #[] 0)).lt b hb).1)
      clear HT
      go_wp2_with fail
      go_roundw
      case rel => exact ⟨j + 1, (i' : Int) - 1, by omega, by omega, rfl, h2, hb2⟩
      case measure => simp [intOf]
    · have hi : i = -1 := by omega
      subst hi
      have hj : j = size := by omega
      subst hj
      have hBt : B.take j = B := List.take_of_length_le (by rw [HBL.out]; exact Nat.le_refl _)
      rw [hBt] at hown
      clear hBt
      go_wp2
      go_ret
      exact ⟨_, rfl, hown, hbw⟩

theorem own_lit4 (W : World) (base : Nat) (hb : base ≤ W.heap.size) (i0 i1 i2 i3 : Int) (c0 c1 c2 c3 : Nat) (h0 : i0 = (c0 : Int)) (h1 : i1 = (c1 : Int)) (h2 : i2 = (c2 : Int)) (h3 : i3 = (c3 : Int)) (k0 : c0 < 256) (k1 : c1 < 256) (k2 : c2 < 256) (k3 : c3 < 256) :
    OwnB (W.alloc (.cells #[.int .u8 i0, .int .u8 i1, .int .u8 i2, .int .u8 i3] 5)) base (.slice (some ⟨W.heap.size, 0, none⟩) 4 4) [c0, c1, c2, c3] := by
  subst h0 h1 h2 h3
  exact ⟨by simp [k0, k1, k2, k3], World.ownsRow_lit (e := 5) (size := 1) W #[.int .u8 (c0 : Int), .int .u8 (c1 : Int), .int .u8 (c2 : Int), .int .u8 (c3 : Int)] 4 hb (by decide) (by simp)⟩

set_option maxHeartbeats 1000000 in
theorem refLow_any (s : Nat) (w : World) (hs : s < 4294967296) :
    Calls Try.prog 17 #[.int .u64 (s : Int)] w fun e w' => ∃ a, e = .returned (.slice a 4 4) ∧ OwnB w' w.heap.size (.slice a 4 4) (le s) ∧ Below w.heap.size w w' := by
  go_enter Try.func17, Try.ntmps17
  go_wp2_with fail
  go_ret
  exact ⟨_, rfl, own_lit4 w _ (Nat.le_refl _) _ _ _ _ (s % 256) (s / 256 % 256) (s / 65536 % 256) (s / 16777216) (by omega) (by omega) (by omega) (by omega) (by omega) (by omega) (by omega) (by omega), (Below.refl _ w).alloc (Nat.le_refl _) _⟩

set_option maxHeartbeats 2000000 in
theorem refFixed_any (n : Nat) (w : World) (hn : n ≤ 1024) :
    Calls Try.prog 30 #[.int .i64 (n : Int)] w fun e w' => ∃ v, e = .returned v ∧ OwnB w' w.heap.size v (fixedOf n) ∧ Below w.heap.size w w' := by
  have HP := Lib.hid (fun (W : World) => refPut_any n 2 W (by omega) (by omega))
  have HF : Hid (fixedOf n = summed (letters ++ be 2 n)) := rfl
  generalize fixedOf n = F at *
  go_enter Try.func30, Try.ntmps30
  go_wp2_with fail
  refine (HP.out _).mono ?_
  rintro e w1 ⟨v1, rfl, ho1, hb1⟩
  have hoL : OwnB w1 w.heap.size (.slice (some ⟨w.heap.size, 0, none⟩) 4 4) letters := (own_lit4 w _ (Nat.le_refl _) 71 89 80 83 71 89 80 83 rfl rfl rfl rfl (by decide) (by decide) (by decide) (by decide)).later hb1
  have hbw1 : Below w.heap.size w w1 := ((Below.refl _ w).alloc (Nat.le_refl _) _).trans (hb1.mono (by simp))
  obtain ⟨a1, c1, rfl, _, _, t1⟩ := ho1.txt
  have hl1 : (be 2 n).length = 2 := be_len 2 n
  generalize be 2 n = B at *
  clear ho1 hb1
  go_wp2_with (at_builtin; refine stop ?_)
  refine unstop (wpList_appendB rfl (.tmp 4) (.tmp 7) rfl rfl hoL rfl hl1.symm t1 (by rw [hl1]; decide) hbw1.size ?_)
  intro v2 w2 h2 hg2 _
  have hb2 := below_appendB hbw1 hoL (Nat.le_refl _) hg2
  clear hg2 hoL hbw1 t1
  have HUL : Hid ((letters ++ B).length = 6) := by show _ = _; rw [List.length_append, hl1]; rfl
  clear hl1
  generalize letters ++ B = u at *
  obtain ⟨a2, c2, rfl, hc2, hcm2, t2⟩ := h2.txt
  have HS := Lib.hid (refSum_any a2 c2 u w2 (by rw [HUL.out]; simp [maxLen]) t2)
  have hsu := sum_lt u
  have HFF : Hid (F = u ++ le (sum u)) := HF.out
  clear HF t2
  generalize sum u = sm at *
  have HL := Lib.hid (refLow_any sm w2 hsu)
  have H2 := Lib.hid h2
  have HB2 := Lib.hid hb2
  have hs2 := hb2.size
  clear h2 hb2
  go_wp2_with fail
  refine HS.out.mono ?_
  rintro e w3 ⟨rfl, rfl⟩
  go_wp2_with fail
  refine HL.out.mono ?_
  rintro e w4 ⟨a4, rfl, ho4, hb4⟩
  have h4 := H2.out.later hb4
  have hbw4 := HB2.out.trans (hb4.mono hs2)
  obtain ⟨a5, c5, e5, _, _, t4⟩ := ho4.txt
  simp only [Value.slice.injEq] at e5
  obtain ⟨rfl, _, rfl⟩ := e5
  clear ho4 hb4
  go_wp2_with (at_builtin; refine stop ?_)
  refine unstop (wpList_appendB rfl (.tmp 9) (.tmp 12) rfl rfl h4 rfl (by rfl) t4 (by rw [HUL.out, le_len]; decide) hbw4.size ?_)
  intro v5 w5 h5 hg5 _
  have hb5 := below_appendB hbw4 h4 (Nat.le_refl _) hg5
  clear hg5
  go_wp2_with fail
  go_ret
  exact ⟨v5, rfl, by rw [HFF.out]; exact h5, hb5⟩

end Go.Proofs.Ytjnfnocmjpboiaa
