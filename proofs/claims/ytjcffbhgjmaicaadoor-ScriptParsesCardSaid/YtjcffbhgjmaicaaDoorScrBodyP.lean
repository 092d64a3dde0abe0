/-
  Plain law: layer 55 (script): the body that numbers tell.
-/
import Derived.Test.YtjcffbhgjmaicaaDoorScrMath
namespace Go.Proofs.YtjcffbhgjmaicaaDoor.Script
open Go.Lib

/-- May these be a body's three first numbers, with so many behind? -/
def headOk (v t k : Int) (n : Nat) : Bool :=
  decide (0 ≤ v) && decide (v ≤ 4096) && decide (0 ≤ t) && decide (t ≤ 8192) && decide (0 ≤ k) && decide (k ≤ 24576) && decide ((n : Int) = 3 * v + 3 * t + k)

/-- The body that numbers tell. -/
def bodyTold (v t : Int) (r : List Int) : Body :=
  { sn := v, pn := v.toNat, p := r.take (3 * v.toNat), tn := t.toNat, t := (r.drop (3 * v.toNat)).take (3 * t.toNat), k := r.drop (3 * v.toNat + 3 * t.toNat) }

def bodyOf : List Int → Option Body
  | v :: t :: k :: r => if headOk v t k r.length then some (bodyTold v t r) else none
  | _ => none

theorem bodyOf_short {l : List Int} (h : l.length < 3) : bodyOf l = none := by
  match l, h with
  | [], _ => rfl
  | [_], _ => rfl
  | [_, _], _ => rfl
  | _ :: _ :: _ :: _, h => simp at h; omega

theorem bodyOf_numbers {b : Body} (hf : fits b = true) (hp : b.p.length = 3 * b.pn) (ht : b.t.length = 3 * b.tn) : bodyOf (numbers b) = some b := by
  unfold fits at hf
  simp only [Bool.and_eq_true, decide_eq_true_iff] at hf
  obtain ⟨⟨⟨⟨⟨h1, h2⟩, h3⟩, h4⟩, h5⟩, -⟩ := hf
  obtain ⟨sn, pn, p, tn, t, k⟩ := b
  simp only at h1 h2 h3 h4 h5 hp ht
  have e1 : sn.toNat = pn := by omega
  unfold numbers bodyOf
  simp only
  have hh : headOk sn (tn : Int) (k.length : Int) (p ++ (t ++ k)).length = true := by
    unfold headOk
    simp only [Bool.and_eq_true, decide_eq_true_iff, List.length_append]
    omega
  rw [if_pos hh]
  unfold bodyTold
  rw [e1, Int.toNat_natCast]
  have e2 : (p ++ (t ++ k)).take (3 * pn) = p := by rw [← hp, List.take_left]
  have e3 : (p ++ (t ++ k)).drop (3 * pn) = t ++ k := by rw [← hp, List.drop_left]
  have e4 : (t ++ k).take (3 * tn) = t := by rw [← ht, List.take_left]
  have e5 : (p ++ (t ++ k)).drop (3 * pn + 3 * tn) = k := by rw [← List.drop_drop, e3, ← ht, List.drop_left]
  rw [e2, e3, e4, e5]

theorem headOk_true {v t k : Int} {n : Nat} (h : headOk v t k n = true) : 0 ≤ v ∧ v ≤ 4096 ∧ 0 ≤ t ∧ t ≤ 8192 ∧ 0 ≤ k ∧ k ≤ 24576 ∧ (n : Int) = 3 * v + 3 * t + k := by
  unfold headOk at h
  simp only [Bool.and_eq_true, decide_eq_true_iff] at h
  omega

theorem bodyOf_wf {l : List Int} {b : Body} (h : bodyOf l = some b) : b.p.length = 3 * b.pn ∧ b.t.length = 3 * b.tn ∧ b.pn ≤ 4096 ∧ b.tn ≤ 8192 ∧ b.k.length ≤ 24576 := by
  unfold bodyOf at h
  split at h
  · rename_i v t k r
    split at h
    · rename_i hh
      have := headOk_true hh
      injection h with h
      subst h
      unfold bodyTold
      simp only [List.length_take, List.length_drop]
      omega
    · cases h
  · cases h

end Go.Proofs.YtjcffbhgjmaicaaDoor.Script
