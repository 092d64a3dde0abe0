/-
  Layer 7 (box): count.
-/
import Derived.Test.YtjnfnocmjpboiaaBoxRight
namespace Go.Proofs.Ytjnfnocmjpboiaa
open Go.RowKit
open CrcMath BoxMath

theorem strOf_letters : strOf letters = ⟨#[71, 89, 80, 83]⟩ := by decide

set_option maxHeartbeats 1000000 in
theorem count_any (a : Option Addr) (n c : Nat) (l : List Nat) (w : World) (hn : l.length = n) (hc : n ≤ c) (hc2 : c ≤ maxLen) (hl : n ≤ 800000000) (h : Txt w a l) :
    Calls Try.prog 32 #[.slice a n c] w fun e w' => e = .returned (.tuple #[.int .i64 (cntN l : Nat), .bool (cntB l)]) ∧ Below w.heap.size w w' := by
  unfold maxLen at hc2
  by_cases h10 : n = 10
  · subst h10
    have k1 := run_convert_str (h.take 4) c
    rw [show (l.take 4).length = 4 from by rw [List.length_take]; omega] at k1
    have HR := Lib.hid (right_any a 10 c l w hn hc (by omega) h)
    have ht : Txt w a (l.take 4) := h.take 4
    by_cases hlet : l.take 4 = letters
    · rw [hlet, strOf_letters] at k1
      by_cases hr : right l = true
      · have hB : cntB l = true := by
          unfold cntB
          rw [hlet, hr]
          simp [hn]
        have hN : cntN l = told ((l.drop 4).take 2) := by unfold cntN; rw [if_pos hB]
        obtain ⟨b, off, rfl, _⟩ := h.at_ (by omega)
        have ht2 : Txt w (some ⟨b, off + 4, none⟩) ((l.drop 4).take 2) := (h.drop 4).take 2
        have hl2 : ((l.drop 4).take 2).length = 2 := by rw [List.length_take, List.length_drop]; omega
        have HD : Hid (∀ w', Below w.heap.size w w' → Calls Try.prog 34 #[.slice (some ⟨b, off + 4, none⟩) 2 (c - 4)] w' fun e w'' => e = .returned (.int .i64 (told ((l.drop 4).take 2) : Nat)) ∧ w' = w'') := fun w' hb => by
          have := told_any (some ⟨b, off + 4, none⟩) (c - 4) ((l.drop 4).take 2) w' (by omega) (ht2.below hb)
          rw [hl2] at this
          exact this
        rw [hr] at HR
        rw [hB, hN]
        clear h ht ht2 hl2 hB hN hr hlet
        generalize told ((l.drop 4).take 2) = z at *
        go_enter Try.func32, Try.ntmps32
        go_wp2_with fail
        refine HR.out.mono ?_
        rintro e w1 ⟨rfl, hb1⟩
        go_wp2_with fail
        refine (HD.out _ hb1).mono ?_
        rintro e w' ⟨rfl, rfl⟩
        go_wp2_with fail
        go_ret2
        exact ⟨rfl, hb1⟩
      · have hr' : right l = false := by simpa using hr
        have hB : cntB l = false := by unfold cntB; rw [hr']; simp
        have hN : cntN l = 0 := by unfold cntN; rw [hB]; rfl
        rw [hr'] at HR
        rw [hB, hN]
        clear h ht hB hN hr hr' hlet
        go_enter Try.func32, Try.ntmps32
        go_wp2_with fail
        refine HR.out.mono ?_
        rintro e w1 ⟨rfl, hb1⟩
        go_wp2_with fail
        go_ret2
        exact ⟨rfl, hb1⟩
    · have hne : strOf (l.take 4) ≠ strOf letters := fun e => hlet (strOf_inj (fun c hc => h.1 c (List.mem_of_mem_take hc)) (by decide) e)
      rw [strOf_letters] at hne
      have hB : cntB l = false := by
        unfold cntB
        have e1 : decide (l.take 4 = letters) = false := by rw [decide_eq_false_iff_not]; exact hlet
        rw [e1]; simp
      have hN : cntN l = 0 := by unfold cntN; rw [hB]; rfl
      rw [hB, hN]
      clear h hB hN
      generalize strOf (l.take 4) = s at *
      have hne2 : ¬ s.toList = [71, 89, 80, 83] := by
        intro e
        rw [ByteArray.toList_eq] at e
        apply hne
        rcases s with ⟨⟨d⟩⟩
        simp at e
        rw [e]
      clear hne HR
      go_enter Try.func32, Try.ntmps32
      go_wp2_with fail
      go_ret2
      exact ⟨rfl, Below.refl _ _⟩
  · have hB : cntB l = false := by
      unfold cntB
      have e1 : decide (l.length = 10) = false := by rw [decide_eq_false_iff_not]; omega
      rw [e1]; rfl
    have hN : cntN l = 0 := by unfold cntN; rw [hB]; rfl
    have hd : ((n : Int) != 10) = true := by rw [bne_iff_ne]; omega
    rw [hB, hN]
    clear h hB hN
    go_enter Try.func32, Try.ntmps32
    go_wp2_with fail
    go_ret2
    exact ⟨rfl, Below.refl _ _⟩

end Go.Proofs.Ytjnfnocmjpboiaa
