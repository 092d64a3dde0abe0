/-
  The walks of the laws of layer 6, seventh part: bursts.
-/
import Derived.Test.YtfmphffnhmokbaaCrcHelp
namespace Go.Proofs.Ytfmphffnhmokbaa
open Go.RowKit
open CrcMath

theorem told_burst {l m : List Nat} {f n : Nat} {x : Int} (hout : ∀ p, p < 8 * n → dbit l m p = true → f ≤ p ∧ p < f + 32) (h : Told (dbit l m) (8 * n) x) :
    x ≤ 32 ∧ 0 ≤ x ∧ (x = 0 ↔ ∀ p, p < 8 * n → dbit l m p = false) := by
  obtain ⟨a, b, hs, hx⟩ := h
  rcases hs with ⟨h1, h2, h3⟩ | ⟨a', b', h1, h2, h3, h4, h5, h6, h7⟩
  · have : x = 0 := by omega
    exact ⟨by omega, by omega, fun _ => h3, fun _ => this⟩
  · have k1 := hout a' (by omega) h5
    have k2 := hout b' h4 h6
    refine ⟨by omega, by omega, fun h0 => by omega, fun h0 => ?_⟩
    rw [h0 a' (by omega)] at h5; cases h5

set_option maxHeartbeats 4000000 in
theorem crcBursts_walk (a : Option Addr) (ca at_ burst : Nat) (l : List Nat) (w : World) (hl1 : 0 < l.length) (hl2 : l.length ≤ 200) (hat : at_ < 65536) (hbu : burst < 4294967296) (h : Txt w a l) :
    Calls Try.prog 5 #[.slice a l.length ca, .int .u16 (at_ : Int), .int .u32 (burst : Int)] w fun e w' => e = .returned (.bool true) ∧ Below w.heap.size w w' := by
  obtain ⟨f, hf⟩ : ∃ f, f = at_ % (8 * l.length) := ⟨_, rfl⟩
  have hfl : f < 8 * l.length := by rw [hf]; exact Nat.mod_lt _ (by omega)
  have hfi : (at_ : Int) % (8 * (l.length : Int)) = (f : Int) := by rw [hf]; rfl
  clear hf
  obtain ⟨C, hC⟩ : ∃ C, C = turned l f burst := ⟨_, rfl⟩
  have HC := Lib.hid hC
  clear hC
  have HL := Lib.hid h.1
  have HX : Hid (∀ wr : World, Below w.heap.size w wr → Txt wr a l) := fun wr hb => h.below hb
  have hnil : ((l.length : Int) == 0) = false := by rw [beq_eq_false_iff_ne]; omega
  have hnil2 : ¬ l = [] := by rintro rfl; simp at hl1
  clear h
  go_enter Try.func5, Try.ntmps5
  go_wp2_with fail
  refine (awake_any _).mono ?_
  rintro e w1 ⟨rfl, hb1⟩
  have hb1' := hb1.size
  have hbA := hb1.alloc hb1.size (.cells #[] 5)
  have tA := HX.out _ hbA
  go_wp2_with (at_builtin; refine stop ?_)
  refine unstop (wpList_appendB rfl (.tmp 21) (.tmp 22) rfl rfl (OwnB.new hb1.size) rfl rfl tA (by simp; omega) (by simp; omega) ?_)
  intro v2 w2 hown2 hg2 _
  rw [List.nil_append] at *
  have hb2 := below_appendB hbA (OwnB.new hb1.size) (Nat.le_refl _) hg2
  obtain ⟨g, cc, rfl, hc1, hc2, hc3, hc4⟩ := hown2.form (by omega)
  have hown : OwnB w2 w.heap.size (.slice (some ⟨g, 0, none⟩) l.length cc) (C 0) := by rw [HC.out]; exact hown2
  clear hg2 tA hbA hown2
  go_wp2_with fail
  rw [hfi]
  clear hfi
  go_loopw [9, 30] (fun _ i wr => ∃ k : Nat, k ≤ 32 ∧ i = .int .i64 k ∧ OwnB wr w.heap.size (.slice (some ⟨g, 0, none⟩) l.length cc) (C k) ∧ Below w.heap.size w wr) (fun _ i _ => 32 - (intOf i).toNat)
  case atStart => exact ⟨0, by omega, rfl, hown, hb2⟩
  case round =>
    obtain ⟨k, hk, rfl, hownr, hbr⟩ := hrel
    by_cases hk32 : k < 32
    · have hA := u32_and1 (burst / 2 ^ k) (Nat.lt_of_le_of_lt (Nat.div_le_self _ _) hbu)
      rw [show ((burst / 2 ^ k : Nat) : Int) = (burst : Int) / 2 ^ k from by simp] at hA
      have hclen : (C k).length = l.length := by rw [HC.out]; exact turned_len l f burst k
      obtain ⟨q, hq⟩ : ∃ q, q = (f + k) / 8 := ⟨_, rfl⟩
      obtain ⟨r, hr⟩ : ∃ r, r = (f + k) % 8 := ⟨_, rfl⟩
      have hr8 : r < 8 := by omega
      have hqi : ((f : Int) + (k : Int)) / 8 = (q : Int) := by omega
      have hri : ((f : Int) + (k : Int)) % 8 = (r : Int) := by omega
      by_cases hz : burst / 2 ^ k % 2 = 1
      · rw [hz] at hA
        by_cases hin : f + k < 8 * l.length
        · have hql : q < l.length := by omega
          have hCs : C (k + 1) = (C k).set q ((C k).getD q 0 ^^^ 2 ^ r) := by
            rw [HC.out, hq, hr]; show (if _ then _ else _) = _; rw [if_pos ⟨hz, hin⟩]
          have HCs := Lib.hid hCs
          clear hCs
          obtain ⟨u, hu⟩ : ∃ u, (C k)[q]? = some u := ⟨(C k)[q]'(by omega), List.getElem?_eq_getElem _⟩
          have hu8 := hownr.1 u (List.mem_of_getElem? hu)
          have hug : (C k).getD q 0 = u := by rw [List.getD_eq_getElem?_getD, hu]; rfl
          rw [hug] at HCs
          have c0 := hownr.cell hu
          have f0 := hownr.thawed q
          have hp := pow_lt_256 hr8
          obtain ⟨p, hpe⟩ : ∃ p, p = 2 ^ r := ⟨_, rfl⟩
          have hpc : (2 : Int) ^ r = (p : Int) := by rw [hpe]; simp
          rw [← hpe] at HCs hp
          have hx := u8_xor_nat u p hu8 hp
          have hsh : IntKind.u8.wrap ((2 : Int) ^ r) = (p : Int) := by
            rw [IntKind.wrap_u8', hpc]; omega
          have hown2 := hownr.set q (u ^^^ p) (Nat.xor_lt_two_pow (n := 8) hu8 hp)
          have hb3 := hbr.setCell (p := ⟨g, q, none⟩) hc3 (.int .u8 ((u ^^^ p : Nat) : Int))
          rw [← HCs.out] at hown2
          clear hpe HCs
          have hfk : (f : Int) + (k : Int) < 8 * (l.length : Int) := by omega
          clear hq hr hug hu hclen hownr
          go_wp2
          go_roundw
          case rel => exact ⟨k + 1, by omega, by go_num, hown2, hb3⟩
          case measure => simp [intOf]; omega
        · have HCs : Hid (C (k + 1) = C k) := by
            show _ = _; rw [HC.out]; show (if _ then _ else _) = _; rw [if_neg (fun h => hin h.2)]
          have hfk : ¬ (f : Int) + (k : Int) < 8 * (l.length : Int) := by omega
          clear hq hr hclen
          go_wp2
          go_roundw
          case rel => exact ⟨k + 1, by omega, by go_num, by rw [HCs.out]; exact hownr, hbr⟩
          case measure => simp [intOf]; omega
      · have hz0 : burst / 2 ^ k % 2 = 0 := by omega
        rw [hz0] at hA
        have HCs : Hid (C (k + 1) = C k) := by
          show _ = _; rw [HC.out]; show (if _ then _ else _) = _; rw [if_neg (fun h => hz h.1)]
        clear hq hr hclen hz0 hz
        go_wp2
        go_roundw
        case rel => exact ⟨k + 1, by omega, by go_num, by rw [HCs.out]; exact hownr, hbr⟩
        case measure => simp [intOf]; omega
    · obtain rfl : k = 32 := by omega
      rw [HC.out] at hownr
      have hclen := turned_len l f burst 32
      have hbit := turned_bit l f burst 32
      generalize turned l f burst 32 = m at *
      have hout : ∀ p, p < 8 * l.length → dbit l m p = true → f ≤ p ∧ p < f + 32 := by
        intro p hp hd
        rw [hbit p hp] at hd
        simp at hd
        exact ⟨hd.1.1, hd.1.2⟩
      have hsum := burst_told HL.out hownr.1 hclen f hout
      have HOUT := Lib.hid hout
      have HLEN := Lib.hid hclen
      have HSUM := Lib.hid hsum
      have tl := HX.out wr hbr
      have tm := hownr.read
      have HB := Lib.hid (burst_any a (some ⟨g, 0, none⟩) ca cc l m wr (by omega) hclen tl tm)
      clear hout hclen hsum hbit HC HX
      go_wp2_with fail
      refine HB.out.mono ?_
      rintro e w' ⟨n, rfl, htold, d, rfl⟩
      obtain ⟨hn1, hn2, hn3⟩ := told_burst HOUT.out htold
      obtain ⟨t, ht⟩ : ∃ t : Bool, t = (n == 0) := ⟨_, rfl⟩
      have q1 : (((sum l : Nat) : Int) == ((sum m : Nat) : Int)) = t := by
        rw [ht, Bool.eq_iff_iff, beq_iff_eq, beq_iff_eq, Int.natCast_inj, HSUM.out, hn3]
      have q2 : (n == 0) = t := ht.symm
      have HS1 := Lib.hid (sumQ wr a ca l l.length tl rfl (by omega))
      have HS2 := Lib.hid (sumQ wr (some ⟨g, 0, none⟩) cc m l.length tm HLEN.out (by omega))
      clear htold hn3 ht tl tm HB hownr
      generalize sum l = s1 at *
      generalize sum m = s2 at *
      go_wp2_with fail
      refine (HS1.out d).mono ?_
      rintro e w' ⟨rfl, d1, rfl⟩
      go_wp2_with fail
      refine (HS2.out d1).mono ?_
      rintro e w' ⟨rfl, d2, rfl⟩
      go_wp2_with fail
      go_ret
      exact ⟨rfl, below_drewN hbr _⟩

set_option maxHeartbeats 1000000 in
theorem crcBursts_all (a : Option Addr) (ca at_ burst : Nat) (l : List Nat) (w : World) (hat : at_ < 65536) (hbu : burst < 4294967296) (h : Txt w a l) :
    Calls Try.prog 5 #[.slice a l.length ca, .int .u16 (at_ : Int), .int .u32 (burst : Int)] w fun e w' => e = .returned (.bool true) ∧ Below w.heap.size w w' := by
  by_cases h1 : l.length = 0
  · have hl : l = [] := List.eq_nil_of_length_eq_zero h1
    subst hl
    go_enter Try.func5, Try.ntmps5
    go_wp2_with fail
    refine (awake_any _).mono ?_
    rintro e w1 ⟨rfl, hb1⟩
    go_wp2_with fail
    go_ret
    exact ⟨rfl, hb1⟩
  · by_cases h2 : l.length ≤ 200
    · exact crcBursts_walk a ca at_ burst l w (by omega) h2 hat hbu h
    · have hnil : ((l.length : Int) == 0) = false := by rw [beq_eq_false_iff_ne]; omega
      have hnil2 : ¬ l = [] := by rintro rfl; simp at h1
      go_enter Try.func5, Try.ntmps5
      go_wp2_with fail
      refine (awake_any _).mono ?_
      rintro e w1 ⟨rfl, hb1⟩
      go_wp2_with fail
      go_ret
      exact ⟨rfl, hb1⟩

end Go.Proofs.Ytfmphffnhmokbaa
