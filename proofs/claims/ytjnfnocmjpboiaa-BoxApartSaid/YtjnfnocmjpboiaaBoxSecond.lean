/-
  Layer 7 (box): second.
-/
import Derived.Test.YtjnfnocmjpboiaaBoxFirst
namespace Go.Proofs.Ytjnfnocmjpboiaa
open Go.RowKit
open CrcMath BoxMath

set_option maxHeartbeats 2000000 in
theorem second_any (a : Option Addr) (c : Nat) (l : List Nat) (w : World) (hc : l.length ≤ c) (hc2 : c ≤ maxLen) (hl : l.length ≤ 4194304) (h : Txt w a l) :
    Calls Try.prog 23 #[.slice a l.length c] w (HeadIs w (second2 l) (table2 l) ((l.length : Int) - 18 - 9 * (n2 l : Nat) - (lens (table2 l) (n2 l) : Nat))) := by
  have hc3 := hc2
  unfold maxLen at hc2
  by_cases h10 : 10 ≤ l.length
  · obtain ⟨b, off, rfl, _⟩ := h.at_ (by omega)
    have ht : Txt w (some ⟨b, off + (l.length - 10), none⟩) (l.drop (l.length - 10)) := h.drop _
    have hn := cntN_lt ht.1
    have HC := Lib.hid (fun n hn' => count_any (some ⟨b, off + (l.length - 10), none⟩) n (c - (l.length - 10)) (l.drop (l.length - 10)) w hn' (by rw [List.length_drop] at hn'; omega) (by simp only [maxLen]; omega) (by rw [List.length_drop] at hn'; omega) ht)
    have HLD : Hid ((l.drop (l.length - 10)).length = 10) := by show _ = _; rw [List.length_drop]; omega
    have h100 : (0 : Int) ≤ (l.length : Int) - 10 := by omega
    by_cases hB : cntB (l.drop (l.length - 10)) = true
    · by_cases hend : 14 + 9 * n2 l ≤ l.length
      · have ht2 : Txt w (some ⟨b, off + (l.length - 10 - 9 * n2 l - 4), none⟩) (table2 l) := (h.drop _).take _
        have htl : (table2 l).length = 9 * n2 l + 4 := by unfold table2; rw [List.length_take, List.length_drop]; omega
        have HR := Lib.hid (fun (w' : World) (hb : Below w.heap.size w w') (m c' : Nat) (hm : m = 9 * n2 l + 4) (hc' : m ≤ c') => right_any (some ⟨b, off + (l.length - 10 - 9 * n2 l - 4), none⟩) m c' (table2 l) w' (by omega) hc' (by omega) (ht2.below hb))
        have H1 : Hid (second2 l = right (table2 l)) := by
          show _ = _
          unfold second2
          rw [hB]
          have e1 : decide (14 + 9 * n2 l ≤ l.length) = true := by rw [decide_eq_true_iff]; exact hend
          rw [e1]; rfl
        have HT2 := Lib.hid ht2
        have HTL := Lib.hid htl
        rw [hB] at HC
        change Hid (∀ n hn', Calls _ _ _ _ fun e w' => e = .returned (.tuple #[.int .i64 (n2 l : Nat), .bool true]) ∧ Below w.heap.size w w') at HC
        change n2 l < 65536 at hn
        rw [H1.out]
        clear h ht ht2 htl hB H1
        generalize right (table2 l) = r at *
        generalize table2 l = t at *
        generalize n2 l = n at *
        go_enter Try.func23, Try.ntmps23
        go_wp2_with fail
        refine (HC.out _ (by rw [HLD.out]; omega)).mono ?_
        rintro e w1 ⟨rfl, hb1⟩
        cases r with
        | true =>
          go_wp2_with fail
          refine (HR.out _ hb1 _ _ (by omega) (by omega)).mono ?_
          rintro e w2 ⟨rfl, hb2⟩
          have hb3 := hb1.trans (hb2.mono hb1.size)
          have t3 := HT2.out.below hb3
          have HLE := Lib.hid (lens_le t3.1)
          have HB3 := Lib.hid hb3
          clear hb2 hb1 HC HR
          go_wp2_with fail
          obtain ⟨L, hL⟩ : ∃ L, L = lens t := ⟨_, rfl⟩
          have HL := Lib.hid hL
          have HL0 : Hid (L 0 = 0) := by show _ = _; rw [hL]; rfl
          clear hL
          go_loop [9, 10, 53] (fun x _ i => ∃ k : Nat, k ≤ n ∧ i = .int .i64 k ∧ x = .int .i64 ((l.length : Int) - 10 - 9 * (n : Int) - 4 - 4 - (L k : Nat))) (fun _ _ i => n - (intOf i).toNat)
          case atStart => exact ⟨0, by omega, rfl, by rw [HL0.out]; simp⟩
          case round =>
            obtain ⟨k, hk, rfl, rfl⟩ := hrel
            have hLk : L k ≤ k * 4294967296 := by rw [HL.out]; exact HLE.out k
            by_cases hkn : k < n
            · have hrl : tellLen t k < 4294967296 := tellLen_lt t3.1 k
              have tr : Txt w2 (some ⟨b, off + (l.length - 10 - 9 * n - 4) + (9 * k + 1), none⟩) ((t.drop (9 * k + 1)).take 4) := (t3.drop _).take _
              have hrlen : ((t.drop (9 * k + 1)).take 4).length = 4 := by rw [List.length_take, List.length_drop, HTL.out]; omega
              have HTo := Lib.hid (fun c' => told_any (some ⟨b, off + (l.length - 10 - 9 * n - 4) + (9 * k + 1), none⟩) c' ((t.drop (9 * k + 1)).take 4) w2 (by omega) tr)
              rw [hrlen] at HTo
              have HS : Hid (L (k + 1) = L k + tellLen t k) := by show _ = _; rw [HL.out]; rfl
              change Hid (∀ c', Calls _ _ _ _ fun e w' => e = .returned (.int .i64 (tellLen t k : Nat)) ∧ w2 = w') at HTo
              clear tr hrlen t3
              generalize tellLen t k = q at *
              generalize L k = p at *
              go_wp2_with fail
              refine (HTo.out _).mono ?_
              rintro e w' ⟨rfl, rfl⟩
              go_wp2_with fail
              go_round
              case rel => exact ⟨k + 1, by omega, by go_num, by rw [HS.out]; go_num⟩
              case measure => simp [intOf]; omega
            · obtain rfl : k = n := by omega
              go_wp2_with fail
              go_ret3
              refine ⟨HB3.out, .inl ⟨rfl, _, _, ret_head (by have := HTL.out; omega) ?_, HT2.out, by rw [HTL.out]; omega, by simp only [maxLen]; omega⟩⟩
              rw [HL.out]; omega
        | false =>
          go_wp2_with fail
          refine (HR.out _ hb1 _ _ (by omega) (by omega)).mono ?_
          rintro e w2 ⟨rfl, hb2⟩
          have hb3 := hb1.trans (hb2.mono hb1.size)
          go_wp2_with fail
          go_ret3
          exact ⟨hb3, .inr ⟨rfl, rfl⟩⟩
      · have H1 : second2 l = false := by
          unfold second2
          have e1 : decide (14 + 9 * n2 l ≤ l.length) = false := by rw [decide_eq_false_iff_not]; exact hend
          rw [e1]; simp
        rw [H1]
        rw [hB] at HC
        change Hid (∀ n hn', Calls _ _ _ _ fun e w' => e = .returned (.tuple #[.int .i64 (n2 l : Nat), .bool true]) ∧ Below w.heap.size w w') at HC
        change n2 l < 65536 at hn
        clear h ht hB H1
        generalize table2 l = t at *
        generalize n2 l = n at *
        go_enter Try.func23, Try.ntmps23
        go_wp2_with fail
        refine (HC.out _ (by rw [HLD.out]; omega)).mono ?_
        rintro e w1 ⟨rfl, hb1⟩
        go_wp2_with fail
        go_ret3
        exact ⟨hb1, .inr ⟨rfl, rfl⟩⟩
    · have hB' : cntB (l.drop (l.length - 10)) = false := by simpa using hB
      have H1 : second2 l = false := by unfold second2; rw [hB']; rfl
      rw [H1]
      rw [hB'] at HC
      generalize lens (table2 l) (n2 l) = z at *
      generalize n2 l = z2 at *
      generalize cntN (l.drop (l.length - 10)) = n at *
      clear h ht hB H1 hB'
      go_enter Try.func23, Try.ntmps23
      go_wp2_with fail
      refine (HC.out _ (by rw [HLD.out]; omega)).mono ?_
      rintro e w1 ⟨rfl, hb1⟩
      go_wp2_with fail
      go_ret3
      exact ⟨hb1, .inr ⟨rfl, rfl⟩⟩
  · have H1 : second2 l = false := by
      unfold second2
      have e1 : decide (14 + 9 * n2 l ≤ l.length) = false := by rw [decide_eq_false_iff_not]; omega
      rw [e1]; simp
    rw [H1]
    have hn := cntN_lt h.1
    have HC1 := Lib.hid (count_any a l.length c l w rfl hc hc3 (by omega) h)
    generalize lens (table2 l) (n2 l) = z at *
    generalize n2 l = z2 at *
    generalize cntN l = n at *
    generalize cntB l = r at *
    have h100 : ((l.length : Int) - 10) < 0 := by omega
    clear h H1
    cases r
    all_goals
      go_enter Try.func23, Try.ntmps23
      go_wp2_with fail
      refine HC1.out.mono ?_
      rintro e w1 ⟨rfl, hb1⟩
      go_wp2_with fail
      go_ret3
      exact ⟨hb1, .inr ⟨rfl, rfl⟩⟩

end Go.Proofs.Ytjnfnocmjpboiaa
