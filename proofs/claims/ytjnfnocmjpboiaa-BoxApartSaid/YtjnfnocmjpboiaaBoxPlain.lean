/-
  Layer 7 (box): plain laws: what was packed is opened.
-/
import Derived.Test.YtjnfnocmjpboiaaBoxRight2
namespace Go.Proofs.Ytjnfnocmjpboiaa
open CrcMath BoxMath

theorem right_summed (l : List Nat) : right (summed l) = true := by
  unfold right
  have h1 : (summed l).length = l.length + 4 := summed_len l
  have h2 : (summed l).take ((summed l).length - 4) = l := by
    rw [h1, show l.length + 4 - 4 = l.length from by omega, summed, List.take_left]
  rw [h2]
  simp [h1]

theorem cntB_fixed (n : Nat) : cntB (fixedOf n) = true := by
  unfold cntB
  have h1 : (fixedOf n).length = 10 := fixedOf_len n
  have h2 : (fixedOf n).take 4 = letters := by
    unfold fixedOf summed
    rw [List.append_assoc]
    exact List.take_left' (by rfl)
  have h3 : right (fixedOf n) = true := right_summed _
  rw [h1, h2, h3]; simp

theorem cntN_fixed {n : Nat} (h : n < 65536) : cntN (fixedOf n) = n := by
  unfold cntN
  rw [cntB_fixed, if_pos rfl]
  have h2 : ((fixedOf n).drop 4).take 2 = be 2 n := by
    unfold fixedOf summed
    rw [List.append_assoc, show (letters ++ (be 2 n ++ le (sum (letters ++ be 2 n)))).drop 4 = be 2 n ++ le (sum (letters ++ be 2 n)) from List.drop_left' (by rfl)]
    exact List.take_left' (be_len 2 n)
  rw [h2]
  exact told_be 2 n h

theorem boxOf_len (cs : List (Nat × List Nat)) : (boxOf cs).length = 36 + 18 * cs.length + (dataOf cs).length := by
  simp only [boxOf, List.length_append, fixedOf_len, tableOf_len, List.length_cons, List.length_nil]
  omega

theorem take10_box (cs : List (Nat × List Nat)) : (boxOf cs).take 10 = fixedOf cs.length := by
  unfold boxOf
  exact List.take_left' (fixedOf_len _)
theorem n1_box {cs : List (Nat × List Nat)} (h : cs.length < 65536) : n1 (boxOf cs) = cs.length := by
  rw [n1, take10_box, cntN_fixed h]
theorem table1_box {cs : List (Nat × List Nat)} (h : cs.length < 65536) : table1 (boxOf cs) = tableOf cs := by
  rw [table1, n1_box h]
  have h1 : (boxOf cs).drop 10 = tableOf cs ++ ([0, 0, 0, 0] ++ (dataOf cs ++ ([0, 0, 0, 0] ++ (tableOf cs ++ fixedOf cs.length)))) := by
    unfold boxOf
    exact List.drop_left' (fixedOf_len _)
  rw [h1]
  exact List.take_left' (tableOf_len cs)
theorem first1_box {cs : List (Nat × List Nat)} (h : cs.length < 65536) : first1 (boxOf cs) = true := by
  unfold first1
  rw [take10_box, cntB_fixed, n1_box h, table1_box h, show right (tableOf cs) = true from right_summed _, boxOf_len]
  simp; omega

theorem opened_box {cs : List (Nat × List Nat)} (h : cs.length < 65536) : opened (boxOf cs) = some (partsOf (boxOf cs) (tableOf cs) (18 + 9 * cs.length : Nat) cs.length) := by
  unfold opened
  rw [first1_box h, if_pos rfl, table1_box h, n1_box h]

theorem table_row {cs : List (Nat × List Nat)} {i : Nat} {c : Nat × List Nat} (h : cs[i]? = some c) : ∃ A B, tableOf cs = A ++ (rowOf c ++ B) ∧ A.length = 9 * i := by
  have hi := (List.getElem?_eq_some_iff.1 h).1
  have hsp : cs = cs.take i ++ (c :: cs.drop (i + 1)) := by
    have h1 := List.take_append_drop i cs
    rw [List.drop_eq_getElem_cons hi, (List.getElem?_eq_some_iff.1 h).2] at h1
    exact h1.symm
  refine ⟨rowsOf (cs.take i), rowsOf (cs.drop (i + 1)) ++ le (sum (rowsOf cs)), ?_, ?_⟩
  · have h2 : rowsOf cs = rowsOf (cs.take i) ++ (rowOf c ++ rowsOf (cs.drop (i + 1))) := by
      conv => lhs; rw [hsp]
      simp only [rowsOf, List.flatMap_append, List.flatMap_cons]
    unfold tableOf summed
    conv => lhs; lhs; rw [h2]
    simp only [List.append_assoc]
  · rw [rowsOf_len, List.length_take, Nat.min_eq_left (Nat.le_of_lt hi)]

theorem tellLen_box {cs : List (Nat × List Nat)} {i : Nat} {c : Nat × List Nat} (h : cs[i]? = some c) (hl : c.2.length < 4294967296) : tellLen (tableOf cs) i = c.2.length := by
  obtain ⟨A, B, h1, h2⟩ := table_row h
  unfold tellLen
  rw [h1, ← List.drop_drop, List.drop_left' h2, rowOf, List.cons_append, List.drop_one, List.tail_cons, List.append_assoc, List.take_left' (be_len 4 _)]
  exact told_be 4 _ hl

theorem lens_box {cs : List (Nat × List Nat)} (hl : ∀ c ∈ cs, c.2.length < 4294967296) : ∀ i, i ≤ cs.length → lens (tableOf cs) i = (dataOf (cs.take i)).length
  | 0, _ => by simp [lens, dataOf]
  | i + 1, hi => by
    have hc := List.getElem?_eq_getElem (l := cs) (i := i) (by omega)
    rw [lens, lens_box hl i (by omega), tellLen_box hc (hl _ (List.mem_of_getElem? hc)), data_succ hc, List.length_append]

theorem row_kind {cs : List (Nat × List Nat)} {i : Nat} {c : Nat × List Nat} (h : cs[i]? = some c) : (tableOf cs).getD (9 * i) 0 = c.1 := by
  obtain ⟨A, B, h1, h2⟩ := table_row h
  rw [h1, List.getD_eq_getElem?_getD, List.getElem?_append_right (by omega), show 9 * i - A.length = 0 by omega, rowOf]
  rfl

theorem row_sum {cs : List (Nat × List Nat)} {i : Nat} {c : Nat × List Nat} (h : cs[i]? = some c) : ((tableOf cs).drop (9 * i + 5)).take 4 = le (sum c.2) := by
  obtain ⟨A, B, h1, h2⟩ := table_row h
  have e : rowOf c ++ B = (c.1 :: be 4 c.2.length) ++ (le (sum c.2) ++ B) := by simp [rowOf, List.append_assoc]
  rw [h1, ← List.drop_drop, List.drop_left' h2, e, List.drop_left' (by simp [be_len])]
  exact List.take_left' rfl

theorem data_at {cs : List (Nat × List Nat)} {i : Nat} {c : Nat × List Nat} (h : cs[i]? = some c) : ((boxOf cs).drop (18 + 9 * cs.length + (dataOf (cs.take i)).length)).take c.2.length = c.2 := by
  have hi := (List.getElem?_eq_some_iff.1 h).1
  have e : dataOf cs = dataOf (cs.take i) ++ (c.2 ++ dataOf (cs.drop (i + 1))) := by
    have h1 := List.take_append_drop i cs
    rw [List.drop_eq_getElem_cons hi, (List.getElem?_eq_some_iff.1 h).2] at h1
    conv => lhs; rw [← h1]
    simp only [dataOf, List.flatMap_append, List.flatMap_cons]
  have e2 : boxOf cs = (fixedOf cs.length ++ (tableOf cs ++ [0, 0, 0, 0])) ++ (dataOf cs ++ ([0, 0, 0, 0] ++ (tableOf cs ++ fixedOf cs.length))) := by
    simp only [boxOf, List.append_assoc]
  rw [e2, ← List.drop_drop, List.drop_left' (by simp only [List.length_append, fixedOf_len, tableOf_len, List.length_cons, List.length_nil]; omega), e, List.append_assoc, List.drop_left' rfl, List.append_assoc]
  exact List.take_left' rfl

theorem whole_box {cs : List (Nat × List Nat)} (hl : ∀ c ∈ cs, c.2.length < 4294967296) {i : Nat} {c : Nat × List Nat} (h : cs[i]? = some c) :
    partOf (boxOf cs) (tableOf cs) (18 + 9 * cs.length : Nat) i = { kind := c.1, data := c.2, at_ := ((18 + 9 * cs.length + (dataOf (cs.take i)).length : Nat) : Int), whole := true } := by
  have hi := (List.getElem?_eq_some_iff.1 h).1
  have hs : startOf (tableOf cs) (18 + 9 * cs.length : Nat) i = ((18 + 9 * cs.length + (dataOf (cs.take i)).length : Nat) : Int) := by
    unfold startOf
    rw [lens_box hl i (Nat.le_of_lt hi)]
    omega
  have ht := tellLen_box h (hl c (List.mem_of_getElem? h))
  have hd : (dataOf (cs.take i)).length + c.2.length ≤ (dataOf cs).length := by
    have h1 := data_le cs (i + 1)
    rw [data_succ h, List.length_append] at h1
    exact h1
  have hw : wholeB (boxOf cs) (tableOf cs) (18 + 9 * cs.length : Nat) i = true := by
    unfold wholeB
    rw [hs, ht, Int.toNat_natCast, data_at h, row_sum h, show c.2 ++ le (sum c.2) = summed c.2 from rfl, right_summed, boxOf_len]
    simp only [Bool.and_true, Bool.and_eq_true, decide_eq_true_iff]
    omega
  unfold partOf
  rw [hw, hs, ht, row_kind h, Int.toNat_natCast, if_pos rfl, data_at h]

theorem chunks_box {cs : List (Nat × List Nat)} (hl : ∀ c ∈ cs, c.2.length < 4294967296) : (partsOf (boxOf cs) (tableOf cs) (18 + 9 * cs.length : Nat) cs.length).map chunkOf = cs := by
  apply List.ext_getElem?
  intro i
  rw [partsOf, List.map_map, List.getElem?_map]
  by_cases hi : i < cs.length
  · have hc := List.getElem?_eq_getElem hi
    rw [List.getElem?_range hi, hc, Option.map_some, Function.comp, whole_box hl hc]
    rfl
  · rw [List.getElem?_eq_none (by simp; omega), List.getElem?_eq_none (by omega)]
    rfl

theorem rightBox_box {cs : List (Nat × List Nat)} (h : cs.length < 65536) (hl : ∀ c ∈ cs, c.2.length < 4294967296) : rightBox (boxOf cs) = true := by
  unfold rightBox
  rw [opened_box h]
  dsimp only
  rw [chunks_box hl]
  have : (partsOf (boxOf cs) (tableOf cs) (18 + 9 * cs.length : Nat) cs.length).all (·.whole) = true := by
    rw [List.all_eq_true]
    intro p hp
    obtain ⟨i, hi, rfl⟩ := List.mem_map.1 hp
    rw [whole_box hl (List.getElem?_eq_getElem (List.mem_range.1 hi))]
  rw [this]; simp

end Go.Proofs.Ytjnfnocmjpboiaa
