/-
  A slice of chunks that came in: how it reads.
-/
import Derived.Test.YtjnfnocmjpboiaaTexts
import Derived.Test.YtjnfnocmjpboiaaBoxHeads
import Derived.Deep.SlicePairs
namespace Go.Proofs.Ytjnfnocmjpboiaa
open Go.RowKit
open Go.ChangeShapes Go.WideShapes Go.ChangeAt

theorem add_none (b off j : Nat) : (⟨b, off, none⟩ : Addr).add j = ⟨b, off + j, none⟩ := by unfold Addr.add; split <;> simp_all

/-- An argument of type []box.Chunk. -/
theorem open_chunks {H : Type} {enc : TypeId × Value → H} {w : World} {a : Option Addr} {len cap fuel : Nat} {x : DataW H × List MemPlace}
    (h : DataW.trod enc Try.prog w 0 (fun _ => true) true fuel 22 [.slice a len cap] = some x) (_hsz : ∀ n ∈ x.1.weights Try.prog 22, n ≤ reachBytes) :
    ∃ cs : List (Nat × List Nat), cs.length = len ∧ Chunks w a cs ∧ len ≤ cap ∧ cap ≤ maxLen := by
  rcases Go.Deep.open_slice_pairs Try.underlying22 Try.underlying36 (by kernel_rfl) rfl rfl (by kernel_rfl) (by kernel_rfl) h with ⟨hcs, _⟩ | ⟨ad, len', cap', m, n, V0, V1, D0, D1, P0, P1, hcs, _, hl, hm, hmm, hx, hr⟩
  · simp only [List.cons.injEq, Value.slice.injEq, and_true] at hcs
    obtain ⟨rfl, rfl, rfl⟩ := hcs
    exact ⟨[], rfl, fun i k l hi => by simp at hi, Nat.le_refl _, by simp [maxLen]⟩
  · simp only [List.cons.injEq, Value.slice.injEq, and_true] at hcs
    obtain ⟨rfl, rfl, rfl⟩ := hcs
    have hmm' : m = cap := by simpa using hmm
    subst hmm'
    obtain ⟨b, off, spot⟩ := ad
    have each : ∀ i, i < len → ∃ q : Nat × List Nat, q.1 < 256 ∧ w.cell? ((⟨b, off, spot⟩ : Addr).add (i * 2)) = some (.int .u8 (q.1 : Int)) ∧
        ∃ A c, w.cell? ((⟨b, off, spot⟩ : Addr).add (i * 2 + 1)) = some (.slice A q.2.length c) ∧ q.2.length ≤ c ∧ c ≤ maxLen ∧ Txt w A q.2 := by
      intro i hi
      obtain ⟨h0, h1, t0, t1⟩ := hr i (by omega)
      obtain ⟨z, hz, _, hwf⟩ := DataW.trod_int Try.underlying5 t0
      simp only [List.cons.injEq, and_true] at hz
      have hz2 := byte_of_wf hwf
      have hzn : ((z.toNat : Nat) : Int) = z := Int.toNat_of_nonneg hz2.1
      have k0 : w.cell? ((⟨b, off, spot⟩ : Addr).add (i * 2)) = some (.int .u8 ((z.toNat : Nat) : Int)) := by rw [h0, hz, hzn]
      rcases open_ints Try.underlying25 Try.underlying5 (by kernel_rfl) t1 with ⟨hc1, _⟩ | ⟨a', L, C, zs, hc1, _, hl1, hm1, hzl, _, hcell, hwz⟩
      · simp only [List.cons.injEq, and_true] at hc1
        exact ⟨(z.toNat, []), by show z.toNat < 256; omega, k0, none, 0, by rw [h1, hc1]; rfl, Nat.le_refl _, by simp [maxLen], txt_nil w none⟩
      · simp only [List.cons.injEq, and_true] at hc1
        simp only [if_true] at hzl
        have hlen : ((zs.take L).map Int.toNat).length = L := by simp [hzl]; omega
        refine ⟨(z.toNat, (zs.take L).map Int.toNat), by show z.toNat < 256; omega, k0, some a', C, by rw [h1, hc1, hlen], by rw [hlen]; exact hl1, hm1, ?_⟩
        have hb : ∀ n ∈ zs, 0 ≤ n ∧ n < 256 := fun n hn => byte_of_wf (hwz n hn)
        show Txt w (some a') ((zs.take L).map Int.toNat)
        refine Txt.of_at ?_ ?_
        · intro c hc'
          obtain ⟨n, hn, rfl⟩ := List.mem_map.1 hc'
          have := hb n (List.mem_of_mem_take hn)
          omega
        · intro hpos
          rw [hlen] at hpos
          obtain ⟨b', off', spot'⟩ := a'
          have h0' := hcell 0 (by omega)
          have hs : spot' = none := by
            have := World.cell?_spot h0'
            unfold Addr.add at this
            simpa using this
          subst hs
          refine ⟨b', off', rfl, fun j u hj => ?_⟩
          rw [List.getElem?_map] at hj
          obtain ⟨n, hn, rfl⟩ := Option.map_eq_some_iff.1 hj
          have hjl : j < L := by
            have := (List.getElem?_eq_some_iff.1 hn).1
            simp at this; omega
          have hcj := hcell j (by omega)
          have hadd' := add_none b' off' j
          rw [hadd'] at hcj
          rw [hcj]
          have hzj : zs[j]? = some n := by rw [List.getElem?_take] at hn; simpa [hjl] using hn
          rw [List.getD_eq_getElem?_getD, hzj]
          have := hb n (List.mem_of_getElem? hzj)
          simp only [Option.getD_some, Option.some.injEq, Value.int.injEq, true_and]
          omega
    obtain ⟨q, hq⟩ := Go.Deep.choose_lt each
    refine ⟨(List.range len).map q, by simp, ?_, hl, hm⟩
    intro i k l hi
    rw [List.getElem?_map] at hi
    obtain ⟨r, hri, e1⟩ := Option.map_eq_some_iff.1 hi
    obtain ⟨hil, e⟩ := List.getElem?_eq_some_iff.1 hri
    simp at hil e
    subst e
    obtain ⟨hk, hc0, A, c, hc1, hlc, hcm, ht⟩ := hq i hil
    rw [e1] at hk hc0 hc1 hlc ht
    have hs : spot = none := by
      have := World.cell?_spot (hq 0 (by omega)).2.1
      unfold Addr.add at this
      simpa using this
    subst hs
    have hadd := add_none b off
    rw [hadd] at hc0 hc1
    rw [← Nat.add_assoc] at hc1
    exact ⟨hk, b, off, A, c, rfl, hc0, hc1, hlc, hcm, ht⟩

end Go.Proofs.Ytjnfnocmjpboiaa
