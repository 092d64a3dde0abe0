/-
  The walks of the laws of layer 6, fifth part.
-/
import Derived.Test.YtfmphffnhmokbaaCrcLaws4
namespace Go.Proofs.Ytfmphffnhmokbaa
open Go.RowKit
open CrcMath

set_option maxHeartbeats 4000000 in
theorem crcTogether_walkB (a b : Option Addr) (ca cb : Nat) (l m : List Nat) (w : World) (hl : l.length ≤ 300) (hm : m.length ≤ 300) (h1 : Txt w a l) (h2 : Txt w b m) (hca : l.length ≤ ca) (hcb : m.length ≤ cb)
    (n : Nat) (hc : ¬ m.length < l.length) (hn : n = l.length) :
    Calls Try.prog 6 #[.slice a l.length ca, .slice b m.length cb] w fun e w' => e = .returned (.bool true) ∧ Below w.heap.size w w' := by
  have hn1 : n ≤ l.length := by omega
  have hn2 : n ≤ m.length := by omega
  have hmk := run_make_row' (P := Try.prog) 22 5 (.int .u8 0) 1 Try.underlying22 infoU8 rfl .i64 .i64 n (by omega) (by omega)
  have hz : (List.zipWith (· ^^^ ·) l m).length = n := by rw [List.length_zipWith]; omega
  have HZ := Lib.hid hz
  have HT : Hid (∀ wr : World, Below w.heap.size w wr → Txt wr a l ∧ Txt wr b m) := fun wr hb => ⟨h1.below hb, h2.below hb⟩
  clear hz
  obtain ⟨C, hC⟩ : ∃ C, C = mixed l m n := ⟨_, rfl⟩
  have HC := Lib.hid hC
  clear hC h1 h2
  · subst hn
    have hw1 : mixed l m l.length 0 = List.replicate l.length 0 := mixed_zero l m l.length
    go_enter Try.func6, Try.ntmps6
    go_wp2_with fail
    refine (awake_any _).mono ?_
    rintro e w1 ⟨rfl, hb1⟩
    have hb1' := hb1.size
    have hown := OwnB.made (w := w1) (base := w.heap.size) hb1.size (n := l.length) (by omega)
    rw [← hw1, ← HC.out] at hown
    have hb2 := hb1.alloc hb1.size (.cells (madeCells #[.int .u8 0] l.length) 5)
    clear hw1
    go_wp2_with fail
    clear hmk
    go_loopw [7, 27] (fun _ i wr => ∃ k : Nat, k ≤ l.length ∧ i = .int .i64 k ∧ OwnB wr w.heap.size (.slice (some ⟨w1.heap.size, 0, none⟩) l.length l.length) (C k) ∧ Below w.heap.size w wr) (fun _ i _ => l.length - (intOf i).toNat)
    case atStart => exact ⟨0, by omega, rfl, hown, hb2⟩
    case round =>
      obtain ⟨k, hk, rfl, hownr, hbr⟩ := hrel
      obtain ⟨t1, t2⟩ := HT.out wr hbr
      by_cases hkn : k < l.length
      · obtain ⟨u, hu⟩ : ∃ u, l[k]? = some u := ⟨l[k], List.getElem?_eq_getElem (by omega)⟩
        obtain ⟨v, hv⟩ : ∃ v, m[k]? = some v := ⟨m[k], List.getElem?_eq_getElem (by omega)⟩
        obtain ⟨ba, oa, rfl, hca1⟩ := t1.at_ (by omega)
        obtain ⟨bb, ob, rfl, hcb1⟩ := t2.at_ (by omega)
        have c1 := hca1 k u hu
        have c2 := hcb1 k v hv
        have c3 := hownr.cell (i := k) (u := 0) (by rw [HC.out]; exact mixed_at l m _ k HZ.out hkn)
        have c4 := hownr.thawed k
        have hu8 : u < 256 := t1.1 u (List.mem_of_getElem? hu)
        have hv8 : v < 256 := t2.1 v (List.mem_of_getElem? hv)
        have hx := u8_xor_nat u v hu8 hv8
        have hown2 := hownr.set k (u ^^^ v) (Nat.xor_lt_two_pow (n := 8) hu8 hv8)
        rw [HC.out, mixed_set HZ.out hkn hu hv, ← HC.out] at hown2
        have hb2 := hbr.setCell (p := ⟨w1.heap.size, k, none⟩) hb1.size (.int .u8 ((u ^^^ v : Nat) : Int))
        clear hca1 hcb1 hu hv t1 t2 hownr
        go_wp2
        go_region
        all_goals
          go_wp2
          go_roundw
          case rel => exact ⟨k + 1, by omega, by go_num, hown2, hb2.drew⟩
          case measure => simp [intOf]; omega
      · obtain rfl : k = l.length := by omega
        rw [HC.out, mixed_all l m _ HZ.out] at hownr
        have hmk := run_make_row' (P := Try.prog) 22 5 (.int .u8 0) 1 Try.underlying22 infoU8 rfl .i64 .i64 l.length (by omega) (by omega)
        obtain ⟨a3, c3, he3, _, _, t3⟩ := hownr.txt
        rw [HZ.out] at he3
        obtain ⟨rfl, rfl⟩ : some ⟨w1.heap.size, 0, none⟩ = a3 ∧ l.length = c3 := by
          injection he3 with e1 e2 e3
          exact ⟨e1, e3⟩
        have t1' : Txt wr a (l.take l.length) := t1.take _
        have t2' : Txt wr b (m.take l.length) := t2.take _
        have HM := Lib.hid (together_eq l m l.length t1.1 t2.1 HZ.out)
        have g1 := sum_lt (l.take l.length)
        have g2 := sum_lt (m.take l.length)
        have g3 := sum_lt (List.replicate l.length 0)
        have q1 := u32_xor_nat _ _ g1 g2
        have q2 := u32_xor_nat _ _ (Nat.xor_lt_two_pow (n := 32) g1 g2) g3
        rw [HM.out] at q2
        have HA1 := Lib.hid (sum_at wr a ca (l.take l.length) l.length t1' (by rw [List.length_take]; omega) (by omega))
        have HA2 := Lib.hid (sum_at wr b cb (m.take l.length) l.length t2' (by rw [List.length_take]; omega) (by omega))
        have HA3 := Lib.hid (sum_at wr (some ⟨w1.heap.size, 0, none⟩) l.length (List.zipWith (· ^^^ ·) l m) l.length t3 HZ.out (by omega))
        have HA4 := Lib.hid (fun W => sum_made W wr.heap.size l.length (by omega))
        clear HT HC HZ HM hownr t1 t2 t1' t2' t3
        generalize sum (l.take l.length) = s1 at *
        generalize sum (m.take l.length) = s2 at *
        generalize sum (List.replicate l.length 0) = s3 at *
        generalize sum (List.zipWith (· ^^^ ·) l m) = s4 at *
        generalize s1 ^^^ s2 = s12 at *
        go_wp2
        go_region_with (first
          | (go_at_call 12; with_reducible refine (HA1.out _ ?_).mono ?_; (first | exact (Below.refl _ _).drew | exact ((Below.refl _ _).alloc (Nat.le_refl _) _).drew); rintro e w' ⟨rfl, rfl⟩)
          | (go_at_call 12; with_reducible refine (HA2.out _ ?_).mono ?_; (first | exact (Below.refl _ _).drew | exact ((Below.refl _ _).alloc (Nat.le_refl _) _).drew); rintro e w' ⟨rfl, rfl⟩)
          | (go_at_call 12; with_reducible refine (HA3.out _ ?_).mono ?_; (first | exact (Below.refl _ _).drew | exact ((Below.refl _ _).alloc (Nat.le_refl _) _).drew); rintro e w' ⟨rfl, rfl⟩)
          | (go_at_call 12; refine (HA4.out _ ?_).mono ?_; exact heap_alloc_new _ _; rintro e w' ⟨rfl, rfl⟩))
        all_goals
          go_wp2_with fail
          go_ret
          exact ⟨rfl, (hbr.alloc hbr.size _).drew⟩

set_option maxHeartbeats 1000000 in
theorem crcTogether_walk (a b : Option Addr) (ca cb : Nat) (l m : List Nat) (w : World) (h1 : Txt w a l) (h2 : Txt w b m) (hca : l.length ≤ ca) (hcb : m.length ≤ cb) :
    Calls Try.prog 6 #[.slice a l.length ca, .slice b m.length cb] w fun e w' => e = .returned (.bool true) ∧ Below w.heap.size w w' := by
  by_cases k1 : l.length ≤ 300
  · by_cases k2 : m.length ≤ 300
    · by_cases hc : m.length < l.length
      · exact crcTogether_walkA a b ca cb l m w k1 k2 h1 h2 hca hcb m.length hc rfl
      · exact crcTogether_walkB a b ca cb l m w k1 k2 h1 h2 hca hcb l.length hc rfl
    · go_enter Try.func6, Try.ntmps6
      go_wp2_with fail
      refine (awake_any _).mono ?_
      rintro e w1 ⟨rfl, hb1⟩
      go_wp2_with fail
      go_ret
      exact ⟨rfl, hb1⟩
  · go_enter Try.func6, Try.ntmps6
    go_wp2_with fail
    refine (awake_any _).mono ?_
    rintro e w1 ⟨rfl, hb1⟩
    go_wp2_with fail
    go_ret
    exact ⟨rfl, hb1⟩

end Go.Proofs.Ytfmphffnhmokbaa
