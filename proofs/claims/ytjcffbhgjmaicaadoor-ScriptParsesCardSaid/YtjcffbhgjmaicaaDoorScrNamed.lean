/-
  Layer 55 (script): names.
-/
import Derived.Test.YtjcffbhgjmaicaaDoorScrFits
import Derived.Test.YtjcffbhgjmaicaaDoorShelf
import Derived.Laws.EntriesVeiled
namespace Go.Proofs.YtjcffbhgjmaicaaDoor
open Go.RowKit
open Script

/-- Is a rune a letter of a name? -/
def letterR (x : Nat) : Bool := (decide (97 ≤ x) && decide (x ≤ 122)) || (decide (48 ≤ x) && decide (x ≤ 57))

theorem letterR_big {x : Nat} (h : 128 ≤ x) : letterR x = false := by
  unfold letterR
  have h1 : decide (x ≤ 122) = false := by rw [decide_eq_false_iff_not]; omega
  have h2 : decide (x ≤ 57) = false := by rw [decide_eq_false_iff_not]; omega
  rw [h1, h2]; simp

theorem decode_big (s : ByteArray) (i : Nat) (h : 128 ≤ (s.get! i).toNat) : 128 ≤ (Utf8.decode s i).1 := by
  unfold Utf8.decode
  dsimp only
  rw [if_neg (show ¬ (s.get! (i + 0)).toNat < 128 by rw [Nat.add_zero]; omega)]
  split
  · split
    · assumption
    · decide
  · split
    · split
      · rename_i hc
        simp at hc
        exact Nat.le_trans (by decide) hc.1
      · decide
    · split
      · split
        · rename_i hc
          simp at hc
          exact Nat.le_trans (by decide) hc.1
        · decide
      · decide

theorem decode_small (s : ByteArray) (i : Nat) (h : (s.get! i).toNat < 128) : Utf8.decode s i = ((s.get! i).toNat, 1) := by
  unfold Utf8.decode
  dsimp only
  exact if_pos (show (s.get! (i + 0)).toNat < 128 from h)

theorem idx_letters (s : ByteArray) : ∀ (f pos : Nat), s.size - pos ≤ f → (decide (Lib.idxFuncFrom (fun x => !letterR x) true s f pos < 0) = (s.data.toList.drop pos).all Script.letter)
  | 0, pos, h => by
    rw [List.drop_of_length_le (by rw [Array.length_toList]; show s.size ≤ pos; omega)]
    rfl
  | f + 1, pos, h => by
    unfold Lib.idxFuncFrom
    by_cases hp : pos < s.size
    · rw [if_pos hp]
      have hl : pos < s.data.toList.length := by rw [Array.length_toList]; exact hp
      have hg : s.get! pos = s.data.toList[pos] := by
        show s.data[pos]! = _
        rw [getElem!_pos s.data pos hp]
        simp
      rw [List.drop_eq_getElem_cons hl, List.all_cons, ← hg]
      by_cases hb : (s.get! pos).toNat < 128
      · rw [decode_small s pos hb]
        have e : Script.letter (s.get! pos) = letterR (s.get! pos).toNat := rfl
        rw [e]
        cases hL : letterR (s.get! pos).toNat with
        | true =>
          rw [if_neg (by simp), Bool.true_and]
          exact idx_letters s f (pos + 1) (by omega)
        | false =>
          rw [if_pos (by simp), Bool.false_and, decide_eq_false_iff_not]
          omega
      · have h1 := decode_big s pos (by omega)
        have e : Script.letter (s.get! pos) = letterR (s.get! pos).toNat := rfl
        rw [e, letterR_big (show 128 ≤ (s.get! pos).toNat by omega), Bool.false_and, if_pos (by rw [letterR_big h1]; rfl), decide_eq_false_iff_not]
        omega
    · rw [if_neg hp, List.drop_of_length_le (by rw [Array.length_toList]; show s.size ≤ pos; omega)]
      rfl

theorem named1_any (x : Nat) (w : World) : Calls Tryd.prog 62 #[.int .i32 (x : Int)] w fun e w' => e = .returned (.bool (letterR x)) ∧ w = w' := by
  generalize ht : letterR x = t
  have HT := Lib.hid ht
  clear ht
  go_enter Tryd.func62, Tryd.ntmps62
  go_wp2_with fail
  all_goals
    go_ret
    refine ⟨?_, rfl⟩
    show Ending.returned (Value.bool _) = _
    congr 2
    rw [← HT.out]
    unfold letterR
    rw [Bool.eq_iff_iff]
    simp
    omega

theorem named2_any (x g : Nat) (w : World) (h : w.cell? ⟨g, 0, none⟩ = some (.func (Fn.func 62) #[] #[])) :
    Calls Tryd.prog 64 #[.int .i32 (x : Int), .pointer (some ⟨g, 0, none⟩)] w fun e w' => e = .returned (.bool (!letterR x)) ∧ w = w' := by
  have HC := Lib.hid (named1_any x)
  generalize letterR x = t at *
  go_enter Tryd.func64, Tryd.ntmps64
  go_wp2_with (go_at_call 62; with_reducible refine (HC.out _).mono ?_; rintro e w' ⟨rfl, rfl⟩)
  go_ret
  exact ⟨rfl, rfl⟩

theorem letter_pred (w : World) (g : Nat) (h : w.cell? ⟨g, 0, none⟩ = some (.func (Fn.func 62) #[] #[])) : PredAtRunes Tryd.prog 64 #[.pointer (some ⟨g, 0, none⟩)] (fun x => !letterR x) w := by
  intro W x _ hb
  exact (named2_any x g W ((hb.cell (p := ⟨g, 0, none⟩) (lt_of_cell h)).trans h)).mono fun e w' ⟨he, hw⟩ => ⟨he, 0, hw.symm⟩

theorem named_split (s : ByteArray) : Script.named s.data.toList = (decide (1 ≤ s.size) && decide (s.size ≤ 40) && decide (Lib.idxFunc (fun x => !letterR x) true s < 0)) := by
  have h := idx_letters s s.size 0 (by omega)
  unfold Script.named Lib.idxFunc
  rw [h, List.drop_zero, Array.length_toList]
  rfl

set_option maxRecDepth 100000 in
set_option maxHeartbeats 2000000 in
theorem named_any (s : ByteArray) (w : World) (hs : s.size ≤ 9223372036854775807) : Calls Tryd.prog 49 #[.string s] w fun e w' => e = .returned (.bool (Script.named s.data.toList)) ∧ Below w.heap.size w w' := by
  have HI : Hid (∀ z, z = Lib.idxFunc (fun x => !letterR x) true s → Calls Tryd.prog 63 #[.string s, .func (Fn.func 64) #[] #[.pointer (some ⟨w.heap.size, 0, none⟩)]] (w.alloc (.cells #[.func (Fn.func 62) #[] #[]] 108)) fun e w' => e = .returned (.int .i64 z) ∧ Below (w.alloc (.cells #[.func (Fn.func 62) #[] #[]] 108)).heap.size (w.alloc (.cells #[.func (Fn.func 62) #[] #[]] 108)) w') := fun z hz => by
    rw [hz]
    exact Tryd.strings_IndexFunc_runes 64 #[.pointer (some ⟨w.heap.size, 0, none⟩)] (enters_of Tryd.func64 (by kernel_rfl) rfl) (fun x => !letterR x) s _ (letter_pred _ w.heap.size (by rw [World.cell?_alloc_new]; rfl))
  have HS := Lib.hid (named_split s)
  generalize Script.named s.data.toList = t at *
  obtain ⟨z, hz⟩ : ∃ z, z = Lib.idxFunc (fun x => !letterR x) true s := ⟨_, rfl⟩
  have HZ := Lib.hid (HI.out z hz)
  rw [← hz] at HS
  clear HI hz
  by_cases h1 : 1 ≤ s.size
  · by_cases h2 : s.size ≤ 40
    · have e : t = decide (z < 0) := by rw [HS.out, decide_eq_true h1, decide_eq_true h2]; rfl
      rw [e]
      clear e HS
      go_enter Tryd.func49, Tryd.ntmps49
      go_wp2_with fail
      refine HZ.out.mono ?_
      rintro e w' ⟨rfl, hb⟩
      go_wp2_with fail
      go_ret
      exact ⟨rfl, ((Below.refl _ w).alloc (Nat.le_refl _) _).trans (hb.mono (by simp))⟩
    · have e : t = false := by rw [HS.out, decide_eq_false h2]; simp
      rw [e]
      clear e HS
      go_enter Tryd.func49, Tryd.ntmps49
      go_wp2_with fail
      go_ret
      exact ⟨rfl, (Below.refl _ w).alloc (Nat.le_refl _) _⟩
  · have e : t = false := by rw [HS.out, decide_eq_false h1]; simp
    rw [e]
    clear e HS
    go_enter Tryd.func49, Tryd.ntmps49
    go_wp2_with fail
    go_ret
    exact ⟨rfl, (Below.refl _ w).alloc (Nat.le_refl _) _⟩

end Go.Proofs.YtjcffbhgjmaicaaDoor
