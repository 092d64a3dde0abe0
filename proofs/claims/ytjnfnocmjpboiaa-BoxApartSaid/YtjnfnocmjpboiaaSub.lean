/-
  A part of a slice of bytes, whatever its address: one run equation.
-/
import Derived.Test.YtjnfnocmjpboiaaBoxRight
namespace Go.Proofs.Ytjnfnocmjpboiaa
open Go.RowKit

theorem run_sub {w : World} {a : Option Addr} {l : List Nat} (len cap : Nat) (hlen : l.length = len) (hcap : len ≤ cap) (_hcap2 : cap ≤ maxLen) (lo hi : Nat) (h1 : lo ≤ hi) (h2 : hi ≤ len) (ht : Txt w a l) (loI hiI : Int) (e1 : loI = (lo : Int)) (e2 : hiI = (hi : Int)) :
    ∃ A, (∀ W : World, (Instr.slice 25 (.slice a len cap) (some (.int .i64 loI)) (some (.int .i64 hiI)) none).run Try.prog W = .ok (.slice A (hi - lo) (cap - lo)) W) ∧ Txt w A ((l.drop lo).take (hi - lo)) := by
  obtain ⟨i0, hi0, hz0, hz1, hz2⟩ := info_parts infoU8
  subst e1 e2
  unfold maxLen at _hcap2
  refine ⟨if cap = lo then a else a.map (·.add lo), fun W => ?_, ?_⟩
  · simp [Instr.slice, run_underlying Try.underlying25, Instr.sliceBounds, Instr.sliceBound, asIntOf, go_sem, hi0, hz1, sizeOf, typeInfo]
    rw [if_pos (by omega), if_pos h1]
  · by_cases hc : cap = lo
    · have : hi - lo = 0 := by omega
      rw [this, List.take_zero]
      exact txt_nil w _
    · rw [if_neg hc]
      rcases Nat.eq_zero_or_pos ((l.drop lo).take (hi - lo)).length with h0 | h0
      · rw [List.eq_nil_of_length_eq_zero h0]
        exact txt_nil w _
      · obtain ⟨b, off, rfl, _⟩ := ht.at_ (by simp at h0; omega)
        have hadd : (⟨b, off, none⟩ : Addr).add lo = ⟨b, off + lo, none⟩ := by unfold Addr.add; split <;> simp_all
        simp only [Option.map_some, hadd]
        exact (ht.drop lo).take _

end Go.Proofs.Ytjnfnocmjpboiaa
