/-
  The library's Grow (of nothing) and Concat, of bytes.
-/
import Derived.Test.YtjnfnocmjpboiaaBoxRight
import Derived.Lib.AppendZeros
namespace Go.Proofs.Ytjnfnocmjpboiaa
open Go.RowKit
open CrcMath BoxMath

set_option maxHeartbeats 1000000 in
theorem grow_any (n : Nat) (w : World) (hn : n ≤ 900000000) :
    Calls Try.prog 28 #[.slice none 0 0, .int .i64 (n : Int)] w fun e w' => ∃ v', e = .returned v' ∧ OwnB w' w.heap.size v' [] ∧ Below w.heap.size w w' := by
  rcases Nat.eq_zero_or_pos n with h0 | h0
  · subst h0
    go_enter Try.func28, Try.ntmps28
    go_wp2_with fail
    go_ret
    exact ⟨_, rfl, OwnB.none_, Below.refl _ _⟩
  · obtain ⟨i0, hi0, hz0, hz1, hz2⟩ := info_parts infoU8
    have hr := Lib.hid (fun (ty : TypeId) => Lib.run_append_nil_zeros (P := Try.prog) w 25 3 ty 5 i0 _ .i64 .i64 Try.underlying25 Try.underlying3 hi0 hz0 n h0 (by omega) (by omega) (by rw [hz2]; omega))
    have hge := grownCap_ge w n 0 5
    have hcm := grownCap_le_maxLen w n 0 5 (by simp only [maxLen]; omega)
    have hcm2 := hcm
    unfold maxLen at hcm2
    have HO : Hid (OwnB (w.drew.alloc (.cells (Builtin.zeroCells (Value.int .u8 0).cells n ++ Builtin.zeroCells (Value.int .u8 0).cells (grownCap w n 0 5 - n)) 5)) w.heap.size (.slice (some ⟨w.heap.size, 0, none⟩) 0 (grownCap w n 0 5)) []) :=
      ⟨by simp, by
        refine World.ownsRow_made w.drew _ _ (Nat.le_refl _) hcm ?_
        simp [size_zeroCells, Value.cells]; omega⟩
    clear hi0 hz0 hz1 hz2
    generalize grownCap w n 0 5 = cp at *
    generalize Builtin.zeroCells (Value.int .u8 0).cells n ++ Builtin.zeroCells (Value.int .u8 0).cells (cp - n) = cs at *
    go_enter Try.func28, Try.ntmps28
    go_wp2_with (at_builtin; refine stop ?_)
    refine unstop (Lib.wpList_append_run _ rfl (.tmp 20) (.tmp 21) _ _ rfl _ _ rfl rfl _ _ (hr.out _) ?_)
    go_wp2_with fail
    go_ret
    exact ⟨_, rfl, HO.out, (Below.refl _ _).drew.alloc (Nat.le_refl _) _⟩

/-- The slice of slices that begins at 'a' reads as the texts ls. -/
def Slices (w : World) (a : Option Addr) (ls : List (List Nat)) : Prop :=
  ∀ (i : Nat) (l : List Nat), ls[i]? = some l → ∃ b off A c, a = some ⟨b, off, none⟩ ∧ w.cell? ⟨b, off + i, none⟩ = some (.slice A l.length c) ∧ Txt w A l

/-- How long some texts are together. -/
def total (ls : List (List Nat)) (k : Nat) : Nat := (ls.take k).flatten.length
theorem total_succ {ls : List (List Nat)} {k : Nat} {l : List Nat} (h : ls[k]? = some l) : total ls (k + 1) = total ls k + l.length := by
  unfold total; rw [take_snoc h]; simp
theorem total_le (ls : List (List Nat)) (k : Nat) : total ls k ≤ ls.flatten.length := by
  unfold total
  conv => rhs; rw [← List.take_append_drop k ls, List.flatten_append, List.length_append]
  omega

set_option maxHeartbeats 2000000 in
theorem concat_any (a : Option Addr) (n c : Nat) (ls : List (List Nat)) (w : World) (hn : ls.length = n) (hn2 : n ≤ 1000000) (ht : ls.flatten.length ≤ 900000000) (h : Slices w a ls) :
    Calls Try.prog 19 #[.slice a n c] w fun e w' => ∃ v', e = .returned v' ∧ OwnB w' w.heap.size v' ls.flatten ∧ Below w.heap.size w w' := by
  have HX := Lib.hid h
  clear h
  obtain ⟨T, hT⟩ : ∃ T, T = total ls := ⟨_, rfl⟩
  have HT := Lib.hid hT
  have hT0 : T 0 = 0 := by rw [hT]; simp [total]
  have HT0 := Lib.hid hT0
  have HTL : Hid (∀ k, T k ≤ ls.flatten.length) := fun k => by rw [hT]; exact total_le ls k
  have HN := Lib.hid hn
  clear hT hT0 hn
  go_enter Try.func19, Try.ntmps19
  go_wp2_with fail
  go_loop [3, 11] (fun x i => ∃ k : Nat, k ≤ n ∧ i = .int .i64 k ∧ x = .int .i64 (T k : Nat)) (fun _ i => n - (intOf i).toNat)
  case atStart => exact ⟨0, by omega, rfl, by rw [HT0.out]; rfl⟩
  case round =>
    obtain ⟨k, hk, rfl, rfl⟩ := hrel
    have hTk := HTL.out k
    by_cases hkn : k < n
    · obtain ⟨l, hlk⟩ : ∃ l, ls[k]? = some l := ⟨ls[k]'(by rw [HN.out]; exact hkn), List.getElem?_eq_getElem _⟩
      obtain ⟨b, off, A, c', rfl, hcell, _⟩ := HX.out k l hlk
      have HS : Hid (T (k + 1) = T k + l.length) := by show _ = _; rw [HT.out]; exact total_succ hlk
      have hTk1 := HTL.out (k + 1)
      rw [HS.out] at hTk1
      clear hlk
      generalize T k = t at *
      go_wp2_with fail
      go_round
      case rel => exact ⟨k + 1, by omega, by go_num, by rw [HS.out]; go_num⟩
      case measure => simp [intOf]; omega
    · obtain rfl : k = n := by omega
      have HG := Lib.hid (grow_any (T k) w (by omega))
      go_wp2_with fail
      refine HG.out.mono ?_
      rintro e w1 ⟨v1, rfl, ho1, hb1⟩
      have hb1' := hb1.size
      clear HG hTk
      obtain ⟨F, hF⟩ : ∃ F : Nat → List Nat, F = fun j => (ls.take j).flatten := ⟨_, rfl⟩
      have HF := Lib.hid hF
      have hF0 : F 0 = [] := by rw [hF]; simp
      have HFL : Hid (∀ j, (F j).length ≤ ls.flatten.length) := fun j => by rw [hF]; exact total_le ls j
      rw [← hF0] at ho1
      clear hF hF0
      have HO1 := Lib.hid ho1
      have HB1 := Lib.hid hb1
      clear ho1
      go_wp2_with fail
      go_loopw [6, 8, 27] (fun x _ i wr => ∃ j : Nat, j ≤ k ∧ i = .int .i64 j ∧ OwnB wr w.heap.size x (F j) ∧ Below w.heap.size w wr) (fun _ _ i _ => k - (intOf i).toNat)
      case atStart => exact ⟨0, by omega, rfl, HO1.out, HB1.out⟩
      case round =>
        clear HO1 HB1
        obtain ⟨j, hj, rfl, ho, hb⟩ := hrel
        by_cases hjk : j < k
        · obtain ⟨l, hlk⟩ : ∃ l, ls[j]? = some l := ⟨ls[j]'(by rw [HN.out]; exact hjk), List.getElem?_eq_getElem _⟩
          obtain ⟨b, off, A, c', rfl, hcell0, tx0⟩ := HX.out j l hlk
          have hcell := (hb.cell (p := ⟨b, off + j, none⟩) (lt_of_cell hcell0)).trans hcell0
          have HS : Hid (F (j + 1) = F j ++ l) := by show _ = _; rw [HF.out]; show (ls.take (j + 1)).flatten = _; rw [take_snoc hlk]; simp
          have hlen := HFL.out (j + 1)
          rw [HS.out, List.length_append] at hlen
          have tx := tx0.below hb
          clear hlk hcell0
          go_wp2_with (at_builtin; refine stop ?_)
          refine unstop (wpList_appendB rfl (.tmp 31) (.tmp 32) rfl rfl ho rfl rfl tx (by omega) hb.size ?_)
          intro v2 w2 h2 hg2 _
          rw [← HS.out] at h2
          have hb2 := below_appendB hb ho (Nat.le_refl _) hg2
          clear ho hg2 tx tx0 hlen
          go_wp2_with fail
          go_roundw
          case rel => exact ⟨j + 1, by omega, by go_num, h2, hb2⟩
          case measure => simp [intOf]; omega
        · obtain rfl : j = k := by omega
          have e : F j = ls.flatten := by rw [HF.out]; show (ls.take j).flatten = _; rw [List.take_of_length_le (by rw [HN.out]; exact Nat.le_refl _)]
          rw [e] at ho
          clear e
          go_wp2_with fail
          go_ret
          exact ⟨_, rfl, ho, hb⟩

end Go.Proofs.Ytjnfnocmjpboiaa
