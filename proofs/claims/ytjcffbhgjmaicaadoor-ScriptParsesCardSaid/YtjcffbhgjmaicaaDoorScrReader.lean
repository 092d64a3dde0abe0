/-
  Layer 55 (script): the reader that takes numbers off a row.
-/
import Derived.Test.YtjcffbhgjmaicaaDoorScrLine
namespace Go.Proofs.YtjcffbhgjmaicaaDoor
open Go.RowKit
open Script

theorem Ints.take {w : World} {a : Option Addr} {l : List Int} (h : Ints w a l) (m : Nat) : Ints w a (l.take m) := by
  intro hp
  obtain ⟨b, off, e, hc⟩ := h (by simp at hp ⊢; omega)
  refine ⟨b, off, e, fun j u hj => hc j u ?_⟩
  rw [List.getElem?_map] at hj ⊢
  rw [List.getElem?_take] at hj
  split at hj
  · exact hj
  · cases hj

theorem tail_ints (a : Option Addr) (len cap : Nat) (hcap : len ≤ cap) (_hcap2 : cap ≤ maxLen) (m : Nat) (hm : m ≤ len) :
    ∃ A, (∀ W : World, (Instr.slice 46 (.slice a len cap) (some (.int .i64 (m : Int))) none none).run Tryd.prog W = .ok (.slice A (len - m) (cap - m)) W) ∧ ∀ (W : World) (l : List Int), l.length = len → Ints W a l → Ints W A (l.drop m) := by
  obtain ⟨i0, hi0, hz0, hz1, hz2⟩ := info_parts infoInt
  unfold maxLen at _hcap2
  refine ⟨if cap = m then a else a.map (·.add m), fun W => ?_, fun W l hl ht => ?_⟩
  · simp [Instr.slice, run_underlying Tryd.underlying46, Instr.sliceBounds, Instr.sliceBound, asIntOf, go_sem, hi0, hz1, sizeOf, typeInfo]
    intro hlt
    omega
  · by_cases hc : cap = m
    · rw [List.drop_of_length_le (by omega)]
      exact ints_nil W _
    · rw [if_neg hc]
      rcases Nat.eq_zero_or_pos (l.drop m).length with h0 | h0
      · rw [List.eq_nil_of_length_eq_zero h0]
        exact ints_nil W _
      · obtain ⟨b, off, rfl, _⟩ := ht.at_ (by simp at h0; omega)
        have hadd : (⟨b, off, none⟩ : Addr).add m = ⟨b, off + m, none⟩ := by unfold Addr.add; split <;> simp_all
        simp only [Option.map_some, hadd]
        exact ints_drop ht m

theorem head_ints (a : Option Addr) (len cap : Nat) (hcap : len ≤ cap) (_hcap2 : cap ≤ maxLen) (m : Nat) (hm : m ≤ len) :
    ∃ A, (∀ W : World, (Instr.slice 46 (.slice a len cap) none (some (.int .i64 (m : Int))) none).run Tryd.prog W = .ok (.slice A m cap) W) ∧ ∀ (W : World) (l : List Int), l.length = len → Ints W a l → Ints W A (l.take m) := by
  obtain ⟨i0, hi0, hz0, hz1, hz2⟩ := info_parts infoInt
  unfold maxLen at _hcap2
  refine ⟨if cap = 0 then a else a.map (·.add 0), fun W => ?_, fun W l hl ht => ?_⟩
  · simp [Instr.slice, run_underlying Tryd.underlying46, Instr.sliceBounds, Instr.sliceBound, asIntOf, go_sem, hi0, sizeOf, typeInfo]
    intro hlt
    omega
  · by_cases hc : cap = 0
    · rw [if_pos hc]
      exact ht.take m
    · rw [if_neg hc]
      rcases Nat.eq_zero_or_pos (l.take m).length with h0 | h0
      · rw [List.eq_nil_of_length_eq_zero h0]
        exact ints_nil W _
      · obtain ⟨b, off, rfl, _⟩ := ht.at_ (by simp at h0; omega)
        have hadd : (⟨b, off, none⟩ : Addr).add 0 = ⟨b, off, none⟩ := by unfold Addr.add; split <;> simp_all
        simp only [Option.map_some, hadd]
        exact ht.take m

/-- A reader over what is left, the row l, that lay in the world w0. -/
structure ReaderAt (w0 w : World) (R : Nat) (l : List Int) : Prop where
  cell : ∃ a c, w.cell? ⟨R, 0, none⟩ = some (.slice a l.length c) ∧ l.length ≤ c ∧ c ≤ maxLen ∧ Ints w0 a l
  free : w.frozen? ⟨R, 0, none⟩ = false
  high : w0.heap.size ≤ R
  low : Below w0.heap.size w0 w

set_option maxHeartbeats 1000000 in
theorem many_any (R : Nat) (l : List Int) (m : Nat) (w0 w : World) (h : ReaderAt w0 w R l) (_hm : m ≤ 1000000000) :
    Calls Tryd.prog 56 #[.pointer (some ⟨R, 0, none⟩), .int .i64 (m : Int)] w fun e w' => e = .returned (.bool (decide (m ≤ l.length))) ∧ w' = w := by
  obtain ⟨⟨a, c, hc, h1, h2, h3⟩, hf, -, -⟩ := h
  clear h3
  generalize l.length = n at *
  unfold maxLen at h2
  go_enter Tryd.func56, Tryd.ntmps56
  go_wp2_with fail
  go_ret
  exact ⟨rfl, rfl⟩

set_option maxHeartbeats 1000000 in
theorem take_any (R : Nat) (l : List Int) (m : Nat) (w0 w : World) (h : ReaderAt w0 w R l) (hm : m ≤ l.length) :
    Calls Tryd.prog 57 #[.pointer (some ⟨R, 0, none⟩), .int .i64 (m : Int)] w fun e w' => ∃ a c, e = .returned (.slice a m c) ∧ m ≤ c ∧ Ints w0 a (l.take m) ∧ ReaderAt w0 w' R (l.drop m) ∧ ∃ v, w' = w.setCell ⟨R, 0, none⟩ v := by
  obtain ⟨⟨a, c, hc, h1, h2, h3⟩, hf, hr, hb⟩ := h
  obtain ⟨A, hA, hA2⟩ := head_ints a l.length c h1 h2 m hm
  obtain ⟨B, hB, hB2⟩ := tail_ints a l.length c h1 h2 m hm
  have HA2 := Lib.hid (hA2 w0 l rfl h3)
  have HB2 := Lib.hid (hB2 w0 l rfl h3)
  have HI := Lib.hid h3
  have HB := Lib.hid hb
  have hlen : ∃ n, n = l.length := ⟨_, rfl⟩
  obtain ⟨n, hn⟩ := hlen
  have HN := Lib.hid hn
  rw [← hn] at hA hB h1 hm hc
  clear h3 hA2 hB2 hn hb
  go_enter Tryd.func57, Tryd.ntmps57
  go_wp2_with fail
  go_ret
  refine ⟨A, c, rfl, Nat.le_trans hm h1, HA2.out, ⟨⟨B, c - m, ?_, ?_, ?_, HB2.out⟩, ?_, hr, HB.out.setCell (p := ⟨R, 0, none⟩) hr _⟩, _, rfl⟩
  · rw [List.length_drop, ← HN.out]
    exact World.cell?_setCell_same _ _ _ hc
  · rw [List.length_drop, ← HN.out]
    omega
  · omega
  · rw [World.frozen?_setCell]
    exact hf

end Go.Proofs.YtjcffbhgjmaicaaDoor
