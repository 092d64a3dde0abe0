/-
  Layer 7 (box): the small functions: number, summed, told, right; and Equal, Clone of the library.
-/
import Derived.Test.YtjnfnocmjpboiaaCrcCore
import Derived.Test.YtjnfnocmjpboiaaBytes
import Derived.Test.YtjnfnocmjpboiaaBoxMath
import Derived.Deep.QuietTactic
import Derived.BigQuiet
namespace Go.Proofs.Ytjnfnocmjpboiaa
open Go.RowKit
open CrcMath BoxMath

theorem txt_one (W : World) (i0 : Int) (c0 : Nat) (h0 : i0 = (c0 : Int)) (k0 : c0 < 256) : Txt (W.alloc (.cells #[.int .u8 i0] 5)) (some ⟨W.heap.size, 0, none⟩) [c0] := by
  subst h0
  refine Txt.of_at (by simp [k0]) fun _ => ⟨_, _, rfl, fun j u hj => ?_⟩
  rw [World.cell?_alloc_new]
  match j, hj with
  | 0, hj => simp at hj; subst hj; rfl
  | n + 1, hj => simp at hj

theorem txt_lit4 (W : World) (i0 i1 i2 i3 : Int) (c0 c1 c2 c3 : Nat) (h0 : i0 = (c0 : Int)) (h1 : i1 = (c1 : Int)) (h2 : i2 = (c2 : Int)) (h3 : i3 = (c3 : Int)) (k0 : c0 < 256) (k1 : c1 < 256) (k2 : c2 < 256) (k3 : c3 < 256) :
    Txt (W.alloc (.cells #[.int .u8 i0, .int .u8 i1, .int .u8 i2, .int .u8 i3] 5)) (some ⟨W.heap.size, 0, none⟩) [c0, c1, c2, c3] := by
  subst h0 h1 h2 h3
  refine Txt.of_at (by simp [k0, k1, k2, k3]) fun _ => ⟨_, _, rfl, fun j u hj => ?_⟩
  rw [World.cell?_alloc_new]
  match j, hj with
  | 0, hj | 1, hj | 2, hj | 3, hj => simp at hj; subst hj; rfl
  | n + 4, hj => simp at hj

theorem grownBy_alloc_then {w w' : World} {o : Obj} {row : Option Nat} (h : (w.alloc o).grownBy w' row) : w.grownBy w' row :=
  (World.grownBy_alloc w o row).trans h

theorem lies_alloc {w : World} {o : Obj} {v v' : Value} (h : Lies (w.alloc o) v v') : Lies w v v' := fun k hk => (h k hk).imp id fun hk => Nat.le_trans (by simp) hk

set_option maxHeartbeats 1000000 in
theorem summed_any (v : Value) (base : Nat) (l : List Nat) (w : World) (hl : l.length ≤ 900000000) (h : App w base v l) (hb : base ≤ w.heap.size) :
    Calls Try.prog 26 #[v] w fun e w' => ∃ v', e = .returned v' ∧ OwnB w' base v' (summed l) ∧ w.grownBy w' v.ownBlock ∧ Lies w v v' := by
  obtain ⟨a, c, rfl, hc1, hc2, ht⟩ := h.txt
  have hs := sum_lt l
  have HSUM : Hid (summed l = l ++ [sum l % 256, sum l / 256 % 256, sum l / 65536 % 256, sum l / 16777216]) := rfl
  have H1 := Lib.hid (sum_any a c l w (by simp only [maxLen]; omega) ht)
  have HT := Lib.hid (fun o => h.later ((Below.refl _ w).alloc (Nat.le_refl _) o))
  clear h ht
  generalize summed l = r at *
  generalize sum l = s at *
  go_enter Try.func26, Try.ntmps26
  go_wp2_with fail
  refine H1.out.mono ?_
  rintro e w' ⟨rfl, rfl⟩
  go_wp2_with (at_builtin; refine stop ?_)
  refine unstop (wpList_appendA rfl (.tmp 6) (.tmp 18) rfl rfl (HT.out _) rfl rfl (txt_lit4 w _ _ _ _ (s % 256) (s / 256 % 256) (s / 65536 % 256) (s / 16777216) (by omega) (by omega) (by omega) (by omega) (by omega) (by omega) (by omega) (by omega)) (by simp) (by simp; omega) (by simp; omega) ?_)
  intro v2 w2 h2 hg2 hat2
  go_wp2_with fail
  go_ret
  exact ⟨v2, rfl, by rw [HSUM.out]; exact h2, grownBy_alloc_then hg2, lies_alloc hat2⟩

theorem Lies.refl (w : World) (v : Value) : Lies w v v := fun _ h => .inl h
theorem Lies.trans {w w' : World} {u v x : Value} (h : Lies w u v) (k : Lies w' v x) (hs : w.heap.size ≤ w'.heap.size) : Lies w u x := fun b hb => by
  rcases k b hb with hb | hb
  · exact h b hb
  · exact .inr (by omega)
theorem grown_lies {w wr w2 : World} {u v : Value} (h : w.grownBy wr u.ownBlock) (hl : Lies w u v) (k : wr.grownBy w2 v.ownBlock) : w.grownBy w2 u.ownBlock :=
  ⟨k.os.trans h.os, k.tape.trans h.tape, k.output.trans h.output, Nat.le_trans h.size k.size, fun i hi hne =>
    (k.block i (Nat.lt_of_lt_of_le hi h.size) (fun e => by
      rcases hl i e.symm with e' | e'
      · exact hne e'.symm
      · omega)).trans (h.block i hi hne)⟩

theorem be_snoc {s n j : Nat} (h : j < s) : (be s n).take (j + 1) = (be s n).take j ++ [n / 256 ^ (s - 1 - j) % 256] := take_snoc (be_at s n j h)

set_option maxHeartbeats 2000000 in
theorem number_any (v : Value) (base : Nat) (l : List Nat) (n size : Nat) (w : World) (hl : l.length ≤ 900000000) (_hn : n < 4294967296) (hs0 : 0 < size) (hs : size ≤ 4) (h : App w base v l) (hb : base ≤ w.heap.size) :
    Calls Try.prog 27 #[v, .int .i64 (n : Int), .int .i64 (size : Int)] w fun e w' => ∃ v', e = .returned v' ∧ OwnB w' base v' (l ++ be size n) ∧ w.grownBy w' v.ownBlock ∧ Lies w v v' := by
  obtain ⟨B, hB⟩ : ∃ B, B = be size n := ⟨_, rfl⟩
  rw [← hB]
  have HB := Lib.hid hB
  have hBl : B.length = size := by rw [hB, be_len]
  have HBL := Lib.hid hBl
  clear hB hBl
  go_enter Try.func27, Try.ntmps27
  go_wp2
  go_loopw [0, 7] (fun x k wr => ∃ (j : Nat) (i : Int), i + 1 + j = size ∧ -1 ≤ i ∧ k = .int .i64 i ∧ App wr base x (l ++ B.take j) ∧ (0 < j → OwnB wr base x (l ++ B.take j)) ∧ w.grownBy wr v.ownBlock ∧ Lies w v x) (fun _ k _ => (intOf k + 1).toNat)
  case atStart => exact ⟨0, (size : Int) - 1, by omega, by omega, rfl, by simpa using h, fun h0 => by omega, World.grownBy.refl _ _, Lies.refl _ _⟩
  case round =>
    clear h
    obtain ⟨j, i, hij, hi1, rfl, happ, hown, hgr, hlies⟩ := hrel
    by_cases hi0 : 0 ≤ i
    · obtain ⟨i', rfl⟩ := Int.eq_ofNat_of_zero_le hi0
      obtain ⟨a, c, hx, hc1, hc2, ht⟩ := happ.txt
      subst hx
      have hlen : (l ++ B.take j).length = l.length + j := by rw [List.length_append, List.length_take, HBL.out]; omega
      obtain ⟨q, hq⟩ : ∃ q, q = n / 256 ^ i' % 256 := ⟨_, rfl⟩
      have HS : Hid (l ++ B.take (j + 1) = l ++ B.take j ++ [q]) := by
        show _ = _
        rw [HB.out, be_snoc (by omega), hq, show size - 1 - j = i' from by omega, List.append_assoc]
      have hq8 : q < 256 := by rw [hq]; exact Nat.mod_lt _ (by decide)
      have hpow : (2 : Nat) ^ (8 * i') = 256 ^ i' := by rw [show (256 : Nat) = 2 ^ 8 from rfl, ← Nat.pow_mul]
      have e1 : ((n / 2 ^ (8 * i') : Nat) : Int) = (n : Int) / 2 ^ (8 * i') := by simp
      have hsh : (n : Int) / 2 ^ (8 * i') % 256 = (q : Int) := by
        rw [← e1, hpow, hq]; rfl
      have hnn : (0 : Int) ≤ (n : Int) / 2 ^ (8 * i') := by rw [← e1]; exact Int.natCast_nonneg _
      have hsz := Nat.le_trans hb hgr.size
      have HT := Lib.hid (fun o => happ.later ((Below.refl _ wr).alloc (Nat.le_refl _) o))
      have HLEN := Lib.hid hlen
      clear hq hpow e1 hlen happ hown ht
      generalize l ++ B.take j = u at *
      go_wp2_with (at_builtin; refine stop ?_)
      refine unstop (wpList_appendA rfl (.tmp 14) (.tmp 20) rfl rfl (HT.out _) rfl rfl (txt_one wr _ q rfl hq8) (by simp) (by simp only [HLEN.out, List.length_cons, List.length_nil]; omega) (by simp; omega) ?_)
      intro v2 w2 h2 hg2 hat2
      have hg3 := grownBy_alloc_then hg2
      have hat3 := lies_alloc hat2
      rw [← HS.out] at h2
      clear HT
      go_wp2_with fail
      go_roundw
      case rel => exact ⟨j + 1, (i' : Int) - 1, by omega, by omega, rfl, .inl h2, fun _ => h2, grown_lies hgr hlies hg3, hlies.trans hat3 hgr.size⟩
      case measure => simp [intOf]
    · have hi : i = -1 := by omega
      subst hi
      have hj : j = size := by omega
      subst hj
      have ho := hown hs0
      have hBt : B.take j = B := List.take_of_length_le (by rw [HBL.out]; exact Nat.le_refl _)
      rw [hBt] at ho
      clear happ hown hBt
      go_wp2
      go_ret
      exact ⟨_, rfl, ho, hgr, hlies⟩

theorem i64_or (a b : Nat) (h : a < 1099511627776) (hb : b < 256) : bits .or .i64 ((a : Int) * 256) (b : Int) = ((a * 256 + b : Nat) : Int) := by
  have h1 : (BitVec.ofInt 64 ((a : Int) * 256)).toNat = a * 256 := by
    rw [show (a : Int) * 256 = ((a * 256 : Nat) : Int) from by omega, BitVec.ofInt_natCast, BitVec.toNat_ofNat]; exact Nat.mod_eq_of_lt (by omega)
  have h2 : (BitVec.ofInt 64 (b : Int)).toNat = b := by
    rw [BitVec.ofInt_natCast, BitVec.toNat_ofNat]; exact Nat.mod_eq_of_lt (by omega)
  have h3 : a * 256 ||| b = a * 256 + b := by
    rw [show a * 256 = 2 ^ 8 * a from by omega]
    exact (Nat.two_pow_add_eq_or_of_lt (i := 8) hb a).symm
  show IntKind.i64.wrap ((BitVec.ofInt 64 ((a : Int) * 256) ||| BitVec.ofInt 64 (b : Int)).toNat : Int) = _
  rw [BitVec.toNat_or, h1, h2, h3]
  exact IntWalk.i64_in _ (by omega)

set_option maxHeartbeats 1000000 in
theorem told_any (a : Option Addr) (c : Nat) (l : List Nat) (w : World) (hl : l.length ≤ 4) (h : Txt w a l) :
    Calls Try.prog 34 #[.slice a l.length c] w fun e w' => e = .returned (.int .i64 (told l : Nat)) ∧ w = w' := by
  have hb := h.lt
  have hc := h.at_
  clear h
  obtain ⟨T, hT⟩ : ∃ T : Nat → Nat, T = fun k => told (l.take k) := ⟨_, rfl⟩
  have HT := Lib.hid hT
  have h0 : T 0 = 0 := by rw [hT]; rfl
  have HL : Hid (T l.length = told l) := by show _ = _; rw [hT]; simp
  have H0 := Lib.hid h0
  clear hT h0
  generalize told l = z at *
  go_enter Try.func34, Try.ntmps34
  go_wp2
  go_loop [3, 8] (fun x i => ∃ k : Nat, k ≤ l.length ∧ i = .int .i64 k ∧ x = .int .i64 (T k : Nat)) (fun _ i => l.length - (intOf i).toNat)
  case atStart => exact ⟨0, by omega, rfl, by rw [H0.out]; rfl⟩
  case round =>
    obtain ⟨k, hk, rfl, rfl⟩ := hrel
    by_cases hkl : k < l.length
    · obtain ⟨u, hu⟩ : ∃ u, l[k]? = some u := ⟨l[k], List.getElem?_eq_getElem hkl⟩
      obtain ⟨b, off, rfl, hcell⟩ := hc (by omega)
      have hcl := hcell k u hu
      clear hcell
      have hul : u < 256 := hb u (List.mem_of_getElem? hu)
      have HS : Hid (T (k + 1) = T k * 256 + u) := by show _ = _; rw [HT.out]; show told (l.take (k + 1)) = told (l.take k) * 256 + u; rw [take_snoc hu, told_snoc]
      have hlt : T k < 16777216 := by
        rw [HT.out]
        have h1 := told_lt (l := l.take k) fun c hc => hb c (List.mem_of_mem_take hc)
        have h2 : (l.take k).length ≤ 3 := by rw [List.length_take]; omega
        exact Nat.lt_of_lt_of_le h1 (Nat.pow_le_pow_right (by decide) h2)
      have hor := i64_or (T k) u (by omega) hul
      generalize T k = t at *
      clear hu hc hb
      go_wp2
      go_round
      case rel => exact ⟨k + 1, by omega, by go_num, by rw [HS.out]; simp⟩
      case measure => simp [intOf]; omega
    · obtain rfl : k = l.length := by omega
      go_wp2
      go_ret
      exact ⟨by rw [← HL.out]; rfl, rfl⟩

set_option maxHeartbeats 1000000 in
theorem equal_any (a b : Option Addr) (ca cb : Nat) (l m : List Nat) (w : World) (hl : l.length ≤ 1000000000) (h : Txt w a l) (h' : Txt w b m) :
    Calls Try.prog 21 #[.slice a l.length ca, .slice b m.length cb] w fun e w' => e = .returned (.bool (decide (l = m))) ∧ ∃ k, w' = w.drewN k := by
  have hb := h.lt
  have hc := h.at_
  have hb' := h'.lt
  have hc' := h'.at_
  clear h h'
  by_cases hlen : l.length = m.length
  · have HLEN := Lib.hid hlen
    have hle1 : l.length ≤ m.length := by omega
    have hle2 : m.length ≤ l.length := by omega
    have hne : ((l.length : Int) != (m.length : Int)) = false := by rw [bne_eq_false_iff_eq]; omega
    clear hlen
    go_enter Try.func21, Try.ntmps21
    go_wp2
    go_loopw [5, 13] (fun _ i wr => ∃ (k d : Nat), k ≤ l.length ∧ i = .int .i64 k ∧ l.take k = m.take k ∧ wr = w.drewN d) (fun _ i _ => l.length - (intOf i).toNat)
    case atStart => exact ⟨0, 0, by omega, rfl, by simp, rfl⟩
    case round =>
      obtain ⟨k, d, hk, rfl, htk, hwr⟩ := hrel
      subst hwr
      by_cases hkl : k < l.length
      · obtain ⟨u, hu⟩ : ∃ u, l[k]? = some u := ⟨l[k], List.getElem?_eq_getElem hkl⟩
        obtain ⟨v, hv⟩ : ∃ v, m[k]? = some v := ⟨m[k]'(by rw [← HLEN.out]; exact hkl), List.getElem?_eq_getElem _⟩
        obtain ⟨ba, oa, rfl, hcell⟩ := hc (by omega)
        obtain ⟨bb, ob, rfl, hcell'⟩ := hc' (by rw [← HLEN.out]; omega)
        have hcl := hcell k u hu
        have hcl' := hcell' k v hv
        have HTK := Lib.hid htk
        have HU := Lib.hid hu
        have HV := Lib.hid hv
        clear hcell hcell' hc hc' hb hb' htk hu hv
        by_cases huv : u = v
        · subst huv
          have e1 : ((u : Int) != (u : Int)) = false := by simp
          go_wp2
          go_quiet (fail)
          go_wp2
          go_roundw
          case rel => exact ⟨k + 1, _, by omega, by go_num, by rw [take_snoc HU.out, take_snoc HV.out, HTK.out], rfl⟩
          case measure => simp [intOf]; omega
        · have e1 : ((u : Int) != (v : Int)) = true := by rw [bne_iff_ne]; omega
          have HF : Hid (decide (l = m) = false) := by
            show _ = _
            rw [decide_eq_false_iff_not]
            intro e
            have h1 := HU.out
            rw [e, HV.out] at h1
            injection h1 with h1
            exact huv h1.symm
          go_wp2
          go_quiet (fail)
          go_wp2
          go_ret
          exact ⟨by rw [HF.out]; rfl, d + nq, by rw [World.drewN_drewN]⟩
      · have HT : Hid (decide (l = m) = true) := by
          show _ = _
          rw [decide_eq_true_iff]
          have e : k = l.length := by omega
          rw [e, List.take_length, HLEN.out, List.take_length] at htk
          exact htk
        clear htk
        go_wp2
        go_ret
        exact ⟨by rw [HT.out]; rfl, _, rfl⟩
  · have hne : ((l.length : Int) != (m.length : Int)) = true := by rw [bne_iff_ne]; omega
    have HF : Hid (decide (l = m) = false) := by
      show _ = _
      rw [decide_eq_false_iff_not]; rintro rfl; exact hlen rfl
    go_enter Try.func21, Try.ntmps21
    go_wp2
    go_ret
    exact ⟨by rw [HF.out]; rfl, 0, rfl⟩

end Go.Proofs.Ytjnfnocmjpboiaa
