/-
  Layer 55 (script): numbers as they may be.
-/
import Derived.Test.YtjcffbhgjmaicaaDoorChecked
import Derived.Test.YtjcffbhgjmaicaaDoorMem
import Derived.Test.YtjcffbhgjmaicaaDoorScrMath
import Derived.Deep.QuietTactic
import Derived.BigQuiet
namespace Go.Proofs.YtjcffbhgjmaicaaDoor
open Go.RowKit
open Script

/-- An int's cell. -/
def intCell (x : Int) : Value := .int .i64 x
/-- A slice of ints that reads as a list. -/
def Ints (w : World) (a : Option Addr) (l : List Int) : Prop := Row w a (l.map intCell)

theorem ints_nil (w : World) (a : Option Addr) : Ints w a [] := row_nil w a
theorem Ints.below {w w' : World} {a : Option Addr} {l : List Int} (h : Ints w a l) (hb : Below w.heap.size w w') : Ints w' a l := Row.below h hb
theorem Ints.drewN {w : World} {a : Option Addr} {l : List Int} (h : Ints w a l) (k : Nat) : Ints (w.drewN k) a l := h
theorem Ints.at_ {w : World} {a : Option Addr} {l : List Int} (h : Ints w a l) (hl : 0 < l.length) : ∃ b off, a = some ⟨b, off, none⟩ ∧ ∀ (j : Nat) (u : Int), l[j]? = some u → w.cell? ⟨b, off + j, none⟩ = some (.int .i64 u) := by
  obtain ⟨b, off, rfl, hc⟩ := h (by simpa using hl)
  exact ⟨b, off, rfl, fun j u hj => hc j (intCell u) (by rw [List.getElem?_map, hj]; rfl)⟩

theorem small1_any (x : Int) (w : World) :
    Calls Tryd.prog 61 #[.int .i64 x] w fun e w' => e = .returned (.bool (!Script.small x)) ∧ w = w' := by
  have e : (!Script.small x) = (decide (x < -1000000000) || decide (1000000000 < x)) := by
    unfold Script.small
    by_cases h1 : x < -1000000000
    · have : ¬ (-1000000000 ≤ x) := by omega
      simp [h1, this]
    · by_cases h2 : 1000000000 < x
      · have : ¬ (x ≤ 1000000000) := by omega
        simp [h2, this]
      · have k1 : -1000000000 ≤ x := by omega
        have k2 : x ≤ 1000000000 := by omega
        simp [h1, h2, k1, k2]
  rw [e]
  clear e
  go_enter Tryd.func61, Tryd.ntmps61
  go_wp2_with fail
  all_goals
    go_ret
    exact ⟨rfl, rfl⟩

/-- An index that tells whether one was found. -/
def Found (b : Bool) (w : World) (e : Ending) (w' : World) : Prop := ∃ z : Int, e = .returned (.int .i64 z) ∧ decide (0 ≤ z) = b ∧ w = w'

theorem all_snoc {l : List Int} {k : Nat} {u : Int} (h : l[k]? = some u) : (l.take (k + 1)).all Script.small = ((l.take k).all Script.small && Script.small u) := by
  rw [take_snoc h, List.all_append]; simp

set_option maxHeartbeats 1000000 in
theorem smallIdx_any (a : Option Addr) (n c : Nat) (l : List Int) (w : World) (hn : l.length = n) (hn2 : n ≤ 1000000000) (h : Ints w a l) :
    Calls Tryd.prog 78 #[.slice a n c, .func (Fn.func 61) #[] #[]] w (Found (!l.all Script.small) w) := by
  have HX := Lib.hid h
  have HN := Lib.hid hn
  clear h hn
  go_enter Tryd.func78, Tryd.ntmps78
  go_wp2_with fail
  go_loop [8, 5] (fun i _ => ∃ k : Nat, k ≤ n ∧ i = .int .i64 k ∧ (l.take k).all Script.small = true) (fun i _ => n - (intOf i).toNat)
  case atStart => exact ⟨0, by omega, rfl, by simp⟩
  case round =>
    obtain ⟨k, hk, rfl, hs⟩ := hrel
    by_cases hkn : k < n
    · obtain ⟨u, hu⟩ : ∃ u, l[k]? = some u := ⟨l[k]'(by rw [HN.out]; exact hkn), List.getElem?_eq_getElem _⟩
      obtain ⟨b, off, rfl, hc⟩ := HX.out.at_ (by rw [HN.out]; omega)
      have hcl := hc k u hu
      have HA := Lib.hid (all_snoc hu)
      have HU := Lib.hid hu
      have HS := Lib.hid hs
      have HC := Lib.hid (small1_any u)
      clear hc hu hs
      cases hsm : Script.small u with
      | true =>
        rw [hsm] at HC
        have HSM := Lib.hid hsm
        clear hsm
        go_wp2_with (go_at_call 61; with_reducible refine (HC.out _).mono ?_; rintro e w' ⟨rfl, rfl⟩)
        go_round
        case rel => exact ⟨k + 1, by omega, by go_num, by rw [HA.out, HS.out, HSM.out]; rfl⟩
        case measure => simp [intOf]; omega
      | false =>
        rw [hsm] at HC
        have HF : Hid (l.all Script.small = false) := by
          show _ = _
          rw [List.all_eq_false]
          exact ⟨u, List.mem_of_getElem? HU.out, by rw [hsm]; decide⟩
        clear hsm
        rw [HF.out]
        go_wp2_with (go_at_call 61; with_reducible refine (HC.out _).mono ?_; rintro e w' ⟨rfl, rfl⟩)
        go_ret
        exact ⟨(k : Int), rfl, by simp, rfl⟩
    · obtain rfl : k = n := by omega
      have HF : Hid (l.all Script.small = true) := by
        show _ = _
        rw [List.take_of_length_le (by rw [HN.out]; exact Nat.le_refl _)] at hs
        exact hs
      clear hs
      rw [HF.out]
      go_wp2_with fail
      go_ret
      exact ⟨-1, rfl, by rw [HF.out]; rfl, rfl⟩

set_option maxHeartbeats 1000000 in
theorem small_any (a : Option Addr) (n c : Nat) (l : List Int) (w : World) (hn : l.length = n) (hn2 : n ≤ 1000000000) (h : Ints w a l) :
    Calls Tryd.prog 48 #[.slice a n c] w fun e w' => e = .returned (.bool (l.all Script.small)) ∧ w = w' := by
  have HI := Lib.hid (smallIdx_any a n c l w hn hn2 h)
  clear h hn
  generalize l.all Script.small = t at *
  go_enter Tryd.func48, Tryd.ntmps48
  go_wp2_with (go_at_call 60; go_in)
  refine HI.out.mono ?_
  rintro e w' ⟨z, rfl, hz, rfl⟩
  cases t with
  | true =>
    have hz' : decide (0 ≤ z) = false := hz
    go_wp2_with fail
    go_ret
    exact ⟨rfl, rfl⟩
  | false =>
    have hz' : decide (0 ≤ z) = true := hz
    go_wp2_with fail
    go_ret
    exact ⟨rfl, rfl⟩

end Go.Proofs.YtjcffbhgjmaicaaDoor
