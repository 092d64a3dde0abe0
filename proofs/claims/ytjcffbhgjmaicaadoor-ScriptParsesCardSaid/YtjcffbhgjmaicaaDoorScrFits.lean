/-
  Layer 55 (script): what bodies may be a step's.
-/
import Derived.Test.YtjcffbhgjmaicaaDoorScrInts
namespace Go.Proofs.YtjcffbhgjmaicaaDoor
open Go.RowKit
open Script

/-- A body's value. -/
def bodyV (b : Script.Body) (ta pa ka : Option Addr) (tc pc kc : Nat) : Value := .agg #[.int .i64 b.sn, .slice ta b.tn tc, .slice pa b.pn pc, .slice ka b.k.length kc]

set_option maxRecDepth 100000 in
set_option maxHeartbeats 4000000 in
theorem empty_any (b : Script.Body) (ta pa ka : Option Addr) (tc pc kc : Nat) (w : World) (hp : b.pn ≤ 100000) (ht : b.tn ≤ 100000) (hk : b.k.length ≤ 1000000) :
    Calls Tryd.prog 51 #[bodyV b ta pa ka tc pc kc] w fun e w' => e = .returned (.bool (Script.empty b)) ∧ Below w.heap.size w w' := by
  have he : Script.empty b = (decide (b.sn = 0) && decide (b.pn + b.tn + b.k.length = 0)) := rfl
  unfold bodyV
  by_cases h0 : b.sn = 0
  · by_cases h1 : b.pn + b.tn + b.k.length = 0
    · have ht : Script.empty b = true := by rw [he, decide_eq_true h0, decide_eq_true h1]; rfl
      rw [ht]
      have e1 : ((b.pn : Int) + (b.tn : Int) + (b.k.length : Int) == 0) = true := by rw [beq_iff_eq]; omega
      have e0 : (b.sn == 0) = true := by rw [beq_iff_eq]; exact h0
      clear he ht h0
      go_enter Tryd.func51, Tryd.ntmps51
      go_wp2_with fail
      go_ret
      exact ⟨rfl, (Below.refl _ w).alloc (Nat.le_refl _) _⟩
    · have ht : Script.empty b = false := by rw [he, decide_eq_true h0, decide_eq_false h1]; rfl
      rw [ht]
      have e1 : ((b.pn : Int) + (b.tn : Int) + (b.k.length : Int) == 0) = false := by rw [beq_eq_false_iff_ne]; omega
      have e0 : (b.sn == 0) = true := by rw [beq_iff_eq]; exact h0
      clear he ht h0
      go_enter Tryd.func51, Tryd.ntmps51
      go_wp2_with fail
      go_ret
      exact ⟨rfl, (Below.refl _ w).alloc (Nat.le_refl _) _⟩
  · have ht : Script.empty b = false := by rw [he]; simp [h0]
    rw [ht]
    have e0 : (b.sn == 0) = false := by rw [beq_eq_false_iff_ne]; exact h0
    clear he ht
    go_enter Tryd.func51, Tryd.ntmps51
    go_wp2_with fail
    go_ret
    exact ⟨rfl, (Below.refl _ w).alloc (Nat.le_refl _) _⟩

set_option maxRecDepth 100000 in
set_option maxHeartbeats 4000000 in
theorem fits_any (b : Script.Body) (ta pa ka : Option Addr) (tc pc kc : Nat) (w : World) (h : BodyAt w b ta pa ka) (hp : b.pn ≤ 100000) (ht : b.tn ≤ 100000) (hk : b.k.length ≤ 1000000) :
    Calls Tryd.prog 50 #[bodyV b ta pa ka tc pc kc] w fun e w' => e = .returned (.bool (Script.fits b)) ∧ Below w.heap.size w w' := by
  have hnl : (Script.numbers b).length ≤ 2000000 := by
    unfold Script.numbers
    simp only [List.length_cons, List.length_append]
    have := h.tl; have := h.pl; omega
  have HN := Lib.hid (fun (V : World) (hV : Below w.heap.size w V) => numbers_any b ta pa ka tc pc kc V (h.below hV) hp ht hk)
  have HNL := Lib.hid hnl
  clear h hnl
  by_cases hc : 0 ≤ b.sn ∧ b.sn ≤ 4096 ∧ (b.pn : Int) = b.sn ∧ b.tn ≤ 8192 ∧ b.k.length ≤ 24576
  · obtain ⟨h1, h2, h3, h4, h5⟩ := hc
    have hf : Script.fits b = (Script.numbers b).all Script.small := by
      unfold Script.fits
      simp [h1, h2, h3, h4, h5]
    rw [hf]
    clear hf
    unfold bodyV
    generalize Script.numbers b = NB at *
    obtain ⟨sn, pn, p, tn, t, k⟩ := b
    simp only at *
    have e3 : ((pn : Int) == sn) = true := by rw [beq_iff_eq]; exact h3
    have HSM := Lib.hid (fun a1 c1 (V : World) (t1 : Ints V a1 NB) => small_any a1 NB.length c1 NB V rfl (by have := HNL.out; omega) t1)
    clear h3
    generalize NB.all Script.small = tt at *
    go_enter Tryd.func50, Tryd.ntmps50
    go_wp2_with fail
    refine (HN.out _ ((Below.refl _ w).alloc (Nat.le_refl _) _)).mono ?_
    rintro e w1 ⟨v1, rfl, ho1, hb1⟩
    obtain ⟨a1, c1, rfl, _, _, t1⟩ := ho1.ints
    have HS := Lib.hid (HSM.out a1 c1 w1 t1)
    have hbw : Below w.heap.size w w1 := ((Below.refl _ w).alloc (Nat.le_refl _) _).trans (hb1.mono (by simp))
    clear ho1 hb1 t1
    go_wp2_with fail
    refine HS.out.mono ?_
    rintro e w' ⟨rfl, rfl⟩
    go_wp2_with fail
    go_ret
    exact ⟨rfl, hbw⟩
  · have hf : Script.fits b = false := by
      unfold Script.fits
      simp only [Bool.and_eq_false_iff, decide_eq_false_iff_not]
      by_cases h1 : 0 ≤ b.sn
      · by_cases h2 : b.sn ≤ 4096
        · by_cases h3 : (b.pn : Int) = b.sn
          · by_cases h4 : b.tn ≤ 8192
            · by_cases h5 : b.k.length ≤ 24576
              · exact absurd ⟨h1, h2, h3, h4, h5⟩ hc
              · exact .inl (.inr h5)
            · exact .inl (.inl (.inr h4))
          · exact .inl (.inl (.inl (.inr h3)))
        · exact .inl (.inl (.inl (.inl (.inr h2))))
      · exact .inl (.inl (.inl (.inl (.inl h1))))
    rw [hf]
    clear hf
    unfold bodyV
    clear HN HNL
    obtain ⟨sn, pn, p, tn, t, k⟩ := b
    simp only at *
    by_cases h1 : 0 ≤ sn
    · by_cases h2 : sn ≤ 4096
      · by_cases h3 : (pn : Int) = sn
        · have e3 : ((pn : Int) == sn) = true := by rw [beq_iff_eq]; exact h3
          by_cases h4 : tn ≤ 8192
          · have h5 : ¬ k.length ≤ 24576 := fun h5 => hc ⟨h1, h2, h3, h4, h5⟩
            have e5 : decide (k.length ≤ 24576) = false := by rw [decide_eq_false_iff_not]; exact h5
            clear hc h3
            go_enter Tryd.func50, Tryd.ntmps50
            go_wp2_with fail
            go_ret
            exact ⟨rfl, (Below.refl _ w).alloc (Nat.le_refl _) _⟩
          · clear hc h3
            go_enter Tryd.func50, Tryd.ntmps50
            go_wp2_with fail
            go_ret
            exact ⟨rfl, (Below.refl _ w).alloc (Nat.le_refl _) _⟩
        · have e3 : ((pn : Int) == sn) = false := by rw [beq_eq_false_iff_ne]; exact h3
          clear hc
          go_enter Tryd.func50, Tryd.ntmps50
          go_wp2_with fail
          go_ret
          exact ⟨rfl, (Below.refl _ w).alloc (Nat.le_refl _) _⟩
      · clear hc
        go_enter Tryd.func50, Tryd.ntmps50
        go_wp2_with fail
        go_ret
        exact ⟨rfl, (Below.refl _ w).alloc (Nat.le_refl _) _⟩
    · clear hc
      go_enter Tryd.func50, Tryd.ntmps50
      go_wp2_with fail
      go_ret
      exact ⟨rfl, (Below.refl _ w).alloc (Nat.le_refl _) _⟩

end Go.Proofs.YtjcffbhgjmaicaaDoor
