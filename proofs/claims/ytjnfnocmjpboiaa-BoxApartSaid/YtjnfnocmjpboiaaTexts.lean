/-
  A slice of slices of bytes that came in: how it reads.
-/
import Derived.Test.YtjnfnocmjpboiaaChecked
import Derived.Test.YtjnfnocmjpboiaaMem
import Derived.ProofKit
import Derived.OpenShut
import Derived.ChangeOld
import Derived.Deep.Matrix
import Derived.SizedLaws
namespace Go.Proofs.Ytjnfnocmjpboiaa
open Go.RowKit
open Go.ChangeShapes Go.WideShapes Go.ChangeAt

/-- The slice of slices that begins at 'a' reads as the texts ls. -/
def Texts (w : World) (a : Option Addr) (ls : List (List Nat)) : Prop :=
  ∀ (i : Nat) (l : List Nat), ls[i]? = some l → ∃ b off A c, a = some ⟨b, off, none⟩ ∧ w.cell? ⟨b, off + i, none⟩ = some (.slice A l.length c) ∧ l.length ≤ c ∧ c ≤ 140737488351232 ∧ Txt w A l

theorem Texts.below {w w' : World} {a : Option Addr} {ls : List (List Nat)} (h : Texts w a ls) (hb : Below w.heap.size w w') : Texts w' a ls := by
  intro i l hl
  obtain ⟨b, off, A, c, rfl, hc, h1, h2, ht⟩ := h i l hl
  exact ⟨b, off, A, c, rfl, (hb.cell (p := ⟨b, off + i, none⟩) (lt_of_cell hc)).trans hc, h1, h2, ht.below hb⟩

theorem texts_nil (w : World) (a : Option Addr) : Texts w a [] := by intro i l h; simp at h

theorem weightsAll_mem {H : Type} {P : Program} {e : TypeId} {d : DataW H} {n : Nat} : ∀ {l : List (DataW H)}, d ∈ l → n ∈ d.weights P e → n ∈ DataW.weightsAll P e l
  | [], h, _ => by simp at h
  | c :: l, h, hn => by
    simp only [DataW.weightsAll, List.mem_append]
    rcases List.mem_cons.1 h with rfl | h
    · exact .inl hn
    · exact .inr (weightsAll_mem h hn)

/-- An argument of type [][]byte. -/
theorem open_texts {H : Type} {enc : TypeId × Value → H} {w : World} {a : Option Addr} {len cap fuel : Nat} {x : DataW H × List MemPlace}
    (h : DataW.trod enc Try.prog w 0 (fun _ => true) true fuel 52 [.slice a len cap] = some x) (hsz : ∀ n ∈ x.1.weights Try.prog 52, n ≤ reachBytes) :
    ∃ ls : List (List Nat), ls.length = len ∧ Texts w a ls ∧ len ≤ cap ∧ cap ≤ maxLen := by
  rcases Go.Deep.open_int_rows Try.underlying52 Try.underlying25 Try.underlying5 (by kernel_rfl) (by kernel_rfl) h with ⟨hcs, _⟩ | ⟨ad, len', cap', A, L, C, Z, hcs, _, hl, hm, hx, hr⟩
  · simp only [List.cons.injEq, Value.slice.injEq, and_true] at hcs
    obtain ⟨rfl, rfl, rfl⟩ := hcs
    exact ⟨[], rfl, texts_nil w none, Nat.le_refl _, by simp [maxLen]⟩
  · simp only [List.cons.injEq, Value.slice.injEq, and_true] at hcs
    obtain ⟨rfl, rfl, rfl⟩ := hcs
    refine ⟨(List.range len).map fun r => ((Z r).take (L r)).map Int.toNat, by simp, ?_, hl, hm⟩
    intro i l hi
    rw [List.getElem?_map] at hi
    obtain ⟨r, hri, rfl⟩ := Option.map_eq_some_iff.1 hi
    obtain ⟨hil, e⟩ := List.getElem?_eq_some_iff.1 hri
    simp at hil e
    subst e
    obtain ⟨hcell, hLC, hCm, hZ, hwf, hnone, hsome⟩ := hr i (by omega)
    obtain ⟨b, off, spot⟩ := ad
    have hs : spot = none := by
      have := World.cell?_spot (hr 0 (by omega)).1
      unfold Addr.add at this
      simpa using this
    subst hs
    have hadd : (⟨b, off, none⟩ : Addr).add i = ⟨b, off + i, none⟩ := by unfold Addr.add; split <;> simp_all
    rw [hadd] at hcell
    have hlen : (((Z i).take (L i)).map Int.toNat).length = L i := by simp [hZ]; omega
    have hCr : C i ≤ 140737488351232 := by
      rcases hA : A i with _ | a'
      · rw [hnone hA]; omega
      · subst hx
        have hb1 : Try.prog.bytesOf 5 = 1 := by kernel_rfl
        have hmem := hsz (C i) (by
          simp only [DataW.weights, Try.underlying52]
          refine List.mem_cons_of_mem _ (List.mem_append_left _ (weightsAll_mem (d := Go.Deep.intRow .u8 (A i) (L i) (Z i)) (List.mem_map.2 ⟨i, List.mem_range.2 hil, rfl⟩) ?_))
          rw [hA]
          simp only [Go.Deep.intRow, DataW.weights, Try.underlying25, hb1]
          refine List.mem_cons.2 (.inl ?_)
          simp [lits, hZ]; omega)
        exact hmem
    refine ⟨b, off, A i, C i, rfl, by rw [hlen]; exact hcell, by rw [hlen]; exact hLC, hCr, ?_⟩
    have ht : ∃ l : List Nat, l = ((Z i).take (L i)).map Int.toNat ∧ Txt w (A i) l := by
      refine ⟨_, rfl, ?_⟩
      have hb : ∀ n ∈ Z i, 0 ≤ n ∧ n < 256 := fun n hn => byte_of_wf (hwf n hn)
      refine Txt.of_at ?_ ?_
      · intro c hc'
        obtain ⟨n, hn, rfl⟩ := List.mem_map.1 hc'
        have := hb n (List.mem_of_mem_take hn)
        omega
      · intro hpos
        rw [hlen] at hpos
        rcases hA : A i with _ | ⟨b', off', spot'⟩
        · have := hnone hA; omega
        · obtain ⟨_, hc⟩ := hsome _ hA
          have h0 := hc 0 (by omega)
          have hs : spot' = none := by
            have := World.cell?_spot h0
            unfold Addr.add at this
            simpa using this
          subst hs
          refine ⟨b', off', rfl, fun j u hj => ?_⟩
          rw [List.getElem?_map] at hj
          obtain ⟨n, hn, rfl⟩ := Option.map_eq_some_iff.1 hj
          have hjl : j < L i := by
            have := (List.getElem?_eq_some_iff.1 hn).1
            simp at this; omega
          have hcj := hc j (by omega)
          have hadd' : (⟨b', off', none⟩ : Addr).add j = ⟨b', off' + j, none⟩ := by unfold Addr.add; split <;> simp_all
          rw [hadd'] at hcj
          rw [hcj]
          have hzj : (Z i)[j]? = some n := by rw [List.getElem?_take] at hn; simpa [hjl] using hn
          rw [List.getD_eq_getElem?_getD, hzj]
          have := hb n (List.mem_of_getElem? hzj)
          simp only [Option.getD_some, Option.some.injEq, Value.int.injEq, true_and]
          omega
    obtain ⟨l, rfl, ht⟩ := ht
    exact ht

end Go.Proofs.Ytjnfnocmjpboiaa
