/-
  Layer 7 (box): first.
-/
import Derived.Test.YtjnfnocmjpboiaaBoxCount
namespace Go.Proofs.Ytjnfnocmjpboiaa
open Go.RowKit
open CrcMath BoxMath

/-- What 'first' and 'second' hand back: the table, where the data begin, and whether there is such a head. -/
def HeadIs (w : World) (ok : Bool) (t : List Nat) (at_ : Int) (e : Ending) (w' : World) : Prop :=
  Below w.heap.size w w' ∧
  ((ok = true ∧ ∃ A c, e = .returned (.tuple #[.slice A t.length c, .int .i64 at_, .bool true]) ∧ Txt w A t ∧ t.length ≤ c ∧ c ≤ maxLen) ∨
   (ok = false ∧ e = .returned (.tuple #[.slice none 0 0, .int .i64 0, .bool false])))

theorem ret_head {A : Option Addr} {m m' c : Nat} {i i' : Int} (hm : m = m') (hi : i = i') :
    Ending.returned (.tuple #[.slice A m c, .int .i64 i, .bool true]) = Ending.returned (.tuple #[.slice A m' c, .int .i64 i', .bool true]) := by rw [hm, hi]

set_option maxHeartbeats 2000000 in
theorem first_any (a : Option Addr) (c : Nat) (l : List Nat) (w : World) (hc : l.length ≤ c) (hc2 : c ≤ maxLen) (hl : l.length ≤ 4194304) (h : Txt w a l) :
    Calls Try.prog 22 #[.slice a l.length c] w (HeadIs w (first1 l) (table1 l) (18 + 9 * n1 l : Nat)) := by
  have hc3 := hc2
  unfold maxLen at hc2
  have ht := h.take 10
  have hn := cntN_lt ht.1
  have HC := Lib.hid (fun n hn' => count_any a n c (l.take 10) w hn' (by rw [List.length_take] at hn'; omega) hc3 (by rw [List.length_take] at hn'; omega) ht)
  by_cases h10 : 10 < l.length
  · have HC1 := Lib.hid (HC.out 10 (by rw [List.length_take]; omega))
    by_cases hB : cntB (l.take 10) = true
    · by_cases hend : 14 + 9 * n1 l ≤ l.length
      · obtain ⟨b, off, rfl, _⟩ := h.at_ (by omega)
        have ht2 : Txt w (some ⟨b, off + 10, none⟩) (table1 l) := (h.drop 10).take _
        have htl : (table1 l).length = 9 * n1 l + 4 := by unfold table1; rw [List.length_take, List.length_drop]; omega
        have HR := Lib.hid (fun (w' : World) (hb : Below w.heap.size w w') (m : Nat) (hm : m = 9 * n1 l + 4) => right_any (some ⟨b, off + 10, none⟩) m (c - 10) (table1 l) w' (by omega) (by omega) (by omega) (ht2.below hb))
        have H1 : Hid (first1 l = right (table1 l)) := by
          show _ = _
          unfold first1
          rw [hB]
          have e1 : decide (14 + 9 * n1 l ≤ l.length) = true := by rw [decide_eq_true_iff]; exact hend
          rw [e1]; rfl
        have HT2 := Lib.hid ht2
        have HTL := Lib.hid htl
        rw [hB] at HC1
        change Hid (Calls _ _ _ _ fun e w' => e = .returned (.tuple #[.int .i64 (n1 l : Nat), .bool true]) ∧ Below w.heap.size w w') at HC1
        change n1 l < 65536 at hn
        rw [H1.out]
        clear h ht HC ht2 htl hB H1
        generalize right (table1 l) = r at *
        generalize table1 l = t at *
        generalize n1 l = n at *
        go_enter Try.func22, Try.ntmps22
        go_wp2_with fail
        refine HC1.out.mono ?_
        rintro e w1 ⟨rfl, hb1⟩
        cases r with
        | true =>
          go_wp2_with fail
          refine (HR.out _ hb1 _ (by omega)).mono ?_
          rintro e w2 ⟨rfl, hb2⟩
          have hb3 := hb1.trans (hb2.mono hb1.size)
          go_wp2_with fail
          go_ret3
          refine ⟨hb3, .inl ⟨rfl, _, c - 10, ?_, HT2.out, by rw [HTL.out]; omega, by simp only [maxLen]; omega⟩⟩
          exact ret_head (by have := HTL.out; omega) (by omega)
        | false =>
          go_wp2_with fail
          refine (HR.out _ hb1 _ (by omega)).mono ?_
          rintro e w2 ⟨rfl, hb2⟩
          have hb3 := hb1.trans (hb2.mono hb1.size)
          go_wp2_with fail
          go_ret3
          exact ⟨hb3, .inr ⟨rfl, rfl⟩⟩
      · have H1 : first1 l = false := by
          unfold first1
          have e1 : decide (14 + 9 * n1 l ≤ l.length) = false := by rw [decide_eq_false_iff_not]; exact hend
          rw [e1]; simp
        rw [H1]
        rw [hB] at HC1
        change Hid (Calls _ _ _ _ fun e w' => e = .returned (.tuple #[.int .i64 (n1 l : Nat), .bool true]) ∧ Below w.heap.size w w') at HC1
        change n1 l < 65536 at hn
        clear h ht HC hB H1
        generalize table1 l = t at *
        generalize n1 l = n at *
        go_enter Try.func22, Try.ntmps22
        go_wp2_with fail
        refine HC1.out.mono ?_
        rintro e w1 ⟨rfl, hb1⟩
        go_wp2_with fail
        go_ret3
        exact ⟨hb1, .inr ⟨rfl, rfl⟩⟩
    · have hB' : cntB (l.take 10) = false := by simpa using hB
      have H1 : first1 l = false := by unfold first1; rw [hB']; rfl
      rw [H1]
      rw [hB'] at HC1
      generalize cntN (l.take 10) = n at *
      clear h ht HC hB H1 hB'
      go_enter Try.func22, Try.ntmps22
      go_wp2_with fail
      refine HC1.out.mono ?_
      rintro e w1 ⟨rfl, hb1⟩
      go_wp2_with fail
      go_ret3
      exact ⟨hb1, .inr ⟨rfl, rfl⟩⟩
  · have H1 : first1 l = false := by
      unfold first1
      have e1 : decide (14 + 9 * n1 l ≤ l.length) = false := by rw [decide_eq_false_iff_not]; omega
      rw [e1]; simp
    rw [H1]
    have HC1 := Lib.hid (HC.out l.length (by rw [List.length_take]; omega))
    generalize cntN (l.take 10) = n at *
    generalize cntB (l.take 10) = r at *
    clear h ht HC H1
    cases r
    all_goals
      go_enter Try.func22, Try.ntmps22
      go_wp2_with fail
      refine HC1.out.mono ?_
      rintro e w1 ⟨rfl, hb1⟩
      go_wp2_with fail
      go_ret3
      exact ⟨hb1, .inr ⟨rfl, rfl⟩⟩

end Go.Proofs.Ytjnfnocmjpboiaa
