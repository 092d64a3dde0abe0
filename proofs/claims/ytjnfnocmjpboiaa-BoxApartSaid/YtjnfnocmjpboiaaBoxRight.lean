/-
  Layer 7 (box): Clone of the library, right, count.
-/
import Derived.Test.YtjnfnocmjpboiaaBoxLow
namespace Go.Proofs.Ytjnfnocmjpboiaa
open Go.RowKit
open CrcMath BoxMath

theorem Txt.take {w : World} {a : Option Addr} {l : List Nat} (h : Txt w a l) (n : Nat) : Txt w a (l.take n) := by
  refine Txt.of_at (fun c hc => h.1 c (List.mem_of_mem_take hc)) fun hp => ?_
  obtain ⟨b, off, rfl, hc⟩ := h.at_ (by simp at hp; omega)
  refine ⟨b, off, rfl, fun j u hj => hc j u ?_⟩
  rw [List.getElem?_take] at hj
  split at hj
  · exact hj
  · cases hj

theorem Txt.drop {w : World} {b off : Nat} {l : List Nat} (h : Txt w (some ⟨b, off, none⟩) l) (n : Nat) : Txt w (some ⟨b, off + n, none⟩) (l.drop n) := by
  refine Txt.of_at (fun c hc => h.1 c (List.mem_of_mem_drop hc)) fun hp => ?_
  obtain ⟨b', off', e, hc⟩ := h.at_ (by simp at hp; omega)
  injection e with e
  injection e with e1 e2 e3
  subst e1 e2
  refine ⟨b, off + n, rfl, fun j u hj => ?_⟩
  rw [List.getElem?_drop] at hj
  have := hc (n + j) u hj
  rw [Nat.add_assoc]
  exact this

theorem below_drewN {B : Nat} {a w : World} (h : Below B a w) (n : Nat) : Below B a (w.drewN n) := ⟨h.os, h.tape, h.output, h.size, h.block⟩

set_option maxHeartbeats 1000000 in
theorem clone_any (a : Option Addr) (n c : Nat) (l : List Nat) (w : World) (hn : l.length = n) (hl : n ≤ 900000000) (h : Txt w a l) :
    Calls Try.prog 35 #[.slice a n c] w fun e w' => ∃ v', e = .returned v' ∧ OwnB w' w.heap.size v' l ∧ Below w.heap.size w w' := by
  have kn := fun (W : World) (A : Option Addr) => Lib.run_eql_slice_nil (P := Try.prog) W 25 5 A n c 0 0 Try.underlying25
  rcases a with _ | x
  · have hl0 : l = [] := by
      rcases Nat.eq_zero_or_pos l.length with h0 | h0
      · exact List.eq_nil_of_length_eq_zero h0
      · obtain ⟨b, off, e, _⟩ := h.at_ h0; cases e
    subst hl0
    simp at hn
    subst hn
    go_enter Try.func35, Try.ntmps35
    go_wp2
    go_ret
    exact ⟨_, rfl, OwnB.none_, Below.refl _ _⟩
  · have HT := Lib.hid (fun o => h.below ((Below.refl w.heap.size w).alloc (Nat.le_refl _) o))
    have HN := Lib.hid hn
    clear h hn
    go_enter Try.func35, Try.ntmps35
    go_wp2_with (at_builtin; refine stop ?_)
    refine unstop (wpList_appendB rfl (.tmp 5) (.tmp 6) rfl rfl (OwnB.new (Nat.le_refl _)) rfl HN.out.symm (HT.out _) (by simp only [HN.out, List.length_nil]; omega) (by simp) ?_)
    intro v2 w2 h2 hg2 _
    rw [List.nil_append] at h2
    have hb2 := below_appendB ((Below.refl w.heap.size w).alloc (Nat.le_refl _) _) (OwnB.new (Nat.le_refl _)) (Nat.le_refl _) hg2
    go_wp2_with fail
    go_ret
    exact ⟨_, rfl, h2, hb2⟩

theorem Below.of_grown {w w' : World} {row : Option Nat} (h : w.grownBy w' row) (hr : ∀ k, row = some k → w.heap.size ≤ k) : Below w.heap.size w w' :=
  (Below.refl _ _).grown h (Nat.le_refl _) hr

set_option maxHeartbeats 1000000 in
theorem right_any (a : Option Addr) (n c : Nat) (l : List Nat) (w : World) (hn : l.length = n) (hc : n ≤ c) (hl : n ≤ 800000000) (h : Txt w a l) :
    Calls Try.prog 33 #[.slice a n c] w fun e w' => e = .returned (.bool (right l)) ∧ Below w.heap.size w w' := by
  by_cases h4 : 4 ≤ n
  · obtain ⟨m, rfl⟩ : ∃ m, n = m + 4 := ⟨n - 4, by omega⟩
    have ht : Txt w a (l.take m) := h.take m
    have hlm : (l.take m).length = m := by rw [List.length_take]; omega
    have HR : Hid (right l = decide (summed (l.take m) = l)) := by
      show _ = _
      unfold right
      have e1 : decide (4 ≤ l.length) = true := by rw [decide_eq_true_iff]; omega
      rw [e1, Bool.true_and, show l.length - 4 = m from by omega]
    have HC := Lib.hid (clone_any a m c (l.take m) w hlm (by omega) ht)
    have HN := Lib.hid hn
    have HT := Lib.hid h
    have HLM := Lib.hid hlm
    clear h ht hn hlm
    generalize right l = r at *
    go_enter Try.func33, Try.ntmps33
    go_wp2_with fail
    refine HC.out.mono ?_
    rintro e w1 ⟨v1, rfl, ho1, hb1⟩
    go_wp2_with fail
    refine (summed_any v1 w.heap.size (l.take m) w1 (by rw [HLM.out]; omega) (.inl ho1) hb1.size).mono ?_
    rintro e w2 ⟨v2, rfl, ho2, hg2, _⟩
    have hb2 : Below w.heap.size w w2 := hb1.grown hg2 hb1.size fun k hk => (ho1.lt k hk).1
    obtain ⟨a2, c2, rfl, _, _, t2⟩ := ho2.txt
    have t3 := HT.out.below hb2
    go_wp2_with fail
    have HE := Lib.hid (equal_any a2 a c2 c (summed (l.take m)) l w2 (by rw [summed_len, HLM.out]; omega) t2 t3)
    rw [HN.out] at HE
    refine HE.out.mono ?_
    rintro e w3 ⟨rfl, k, rfl⟩
    rw [← HR.out]
    go_wp2_with fail
    go_ret
    exact ⟨rfl, below_drewN hb2 _⟩
  · have HR : Hid (right l = false) := by
      show _ = _
      unfold right
      have e1 : decide (4 ≤ l.length) = false := by rw [decide_eq_false_iff_not]; omega
      rw [e1, Bool.false_and]
    clear h
    generalize right l = r at *
    have hd : decide ((0 : Int) ≤ (n : Int) - 4) = false := by rw [decide_eq_false_iff_not]; omega
    go_enter Try.func33, Try.ntmps33
    go_wp2_with fail
    go_ret
    exact ⟨by rw [HR.out]; rfl, Below.refl _ _⟩

end Go.Proofs.Ytjnfnocmjpboiaa
