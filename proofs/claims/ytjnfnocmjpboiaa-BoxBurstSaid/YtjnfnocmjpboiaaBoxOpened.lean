/-
  Layer 7 (box): plain laws: what a spoilt box is opened as.
-/
import Derived.Test.YtjnfnocmjpboiaaBoxNear
namespace Go.Proofs.Ytjnfnocmjpboiaa
open CrcMath BoxMath

theorem sum_rest (l : List Nat) (hl : ∀ c ∈ l, c < 256) : sum (l ++ le (sum l)) = sum [0, 0, 0, 0] := by
  have h := sum_lt l
  rw [← more_sum hl, ← rest_eq h]
  have e : le (sum l) = [sum l % 256, sum l / 256 % 256, sum l / 65536 % 256, sum l / 16777216 % 256] := by
    unfold le
    have : sum l / 16777216 % 256 = sum l / 16777216 := by omega
    rw [this]
  rw [e]

theorem right_rest {l : List Nat} (hl : ∀ c ∈ l, c < 256) (h : right l = true) : sum l = sum [0, 0, 0, 0] := by
  unfold right at h
  simp only [Bool.and_eq_true, decide_eq_true_iff] at h
  rw [← h.2]
  exact sum_rest _ fun c hc => hl c (List.mem_of_mem_take hc)

/-- Of two texts near each other that both bear their sums, one is the other. -/
theorem right_near {l m : List Nat} {f : Nat} (hl : ∀ c ∈ l, c < 256) (hm : ∀ c ∈ m, c < 256) (h : Near l m f) (h1 : right l = true) (h2 : right m = true) : m = l := by
  have hs : sum l = sum m := by rw [right_rest hl h1, right_rest hm h2]
  exact dbits_eq hl hm h.len ((burst_told hl hm h.len f h.out).1 hs)

theorem near_sub {l m : List Nat} {f : Nat} (h : Near l m f) (a q : Nat) (ha : a + q ≤ l.length) : Near ((l.drop a).take q) ((m.drop a).take q) (f - 8 * a) := by
  have hlen := h.len
  have h1 : ((l.drop a).take q).length = q := by rw [List.length_take, List.length_drop]; omega
  refine ⟨by rw [h1, List.length_take, List.length_drop]; omega, fun p hp hd => ?_⟩
  rw [h1] at hp
  rw [dbit_sub l m a q p hp] at hd
  have := h.out (8 * a + p) (by omega) hd
  omega

theorem right_sum (m : List Nat) {s : Nat} (hs : s < 4294967296) : right (m ++ le s) = decide (sum m = s) := by
  unfold right
  have h1 : (m ++ le s).length = m.length + 4 := by rw [List.length_append, le_len]
  rw [h1, show m.length + 4 - 4 = m.length from by omega, List.take_left' rfl]
  have h2 : decide (4 ≤ m.length + 4) = true := by rw [decide_eq_true_iff]; omega
  rw [h2, Bool.true_and, summed, Bool.eq_iff_iff, decide_eq_true_iff, decide_eq_true_iff, List.append_cancel_left_eq]
  exact ⟨fun h => le_inj (sum_lt m) hs h, fun h => by rw [h]⟩

/-- A text that begins as a box is opened by its first head. -/
theorem opened_first {l : List Nat} {cs : List (Nat × List Nat)} (hn : cs.length < 65536) (hl : 14 + 9 * cs.length ≤ l.length) (h10 : l.take 10 = fixedOf cs.length) (ht : (l.drop 10).take (9 * cs.length + 4) = tableOf cs) :
    first1 l = true ∧ opened l = some (partsOf l (tableOf cs) (18 + 9 * cs.length : Nat) cs.length) := by
  have e1 : n1 l = cs.length := by rw [n1, h10, cntN_fixed hn]
  have e2 : table1 l = tableOf cs := by rw [table1, e1, ht]
  have e3 : first1 l = true := by
    unfold first1
    rw [h10, cntB_fixed, e1, e2, show right (tableOf cs) = true from right_summed _]
    simp; omega
  refine ⟨e3, ?_⟩
  unfold opened
  rw [e3, if_pos rfl, e2, e1]

/-- A text that has no first head and ends as a box is opened by its end. -/
theorem opened_second {l : List Nat} {cs : List (Nat × List Nat)} (hn : cs.length < 65536) (hf : first1 l = false) (hl : 14 + 9 * cs.length ≤ l.length)
    (h10 : l.drop (l.length - 10) = fixedOf cs.length) (ht : (l.drop (l.length - 10 - 9 * cs.length - 4)).take (9 * cs.length + 4) = tableOf cs) :
    opened l = some (partsOf l (tableOf cs) ((l.length : Int) - 18 - 9 * (cs.length : Nat) - (lens (tableOf cs) cs.length : Nat)) cs.length) := by
  have e1 : n2 l = cs.length := by rw [n2, h10, cntN_fixed hn]
  have e2 : table2 l = tableOf cs := by rw [table2, e1, ht]
  have e3 : second2 l = true := by
    unfold second2
    rw [h10, cntB_fixed, e1, e2, show right (tableOf cs) = true from right_summed _]
    simp; omega
  unfold opened
  rw [hf, if_neg (by decide), e3, if_pos rfl, e2, e1]

theorem first1_cnt {l : List Nat} (h : first1 l = true) : cntB (l.take 10) = true ∧ 14 + 9 * n1 l ≤ l.length ∧ right (table1 l) = true := by
  unfold first1 at h
  simp only [Bool.and_eq_true, decide_eq_true_iff] at h
  exact ⟨h.1.1, h.1.2, h.2⟩

theorem cntB_right {l : List Nat} (h : cntB l = true) : right l = true ∧ l.take 4 = letters := by
  unfold cntB at h
  simp only [Bool.and_eq_true, decide_eq_true_iff] at h
  exact ⟨h.2, h.1.2⟩

/-- A text that doesn't begin with the letter is not opened by its beginning. -/
theorem first1_no {l : List Nat} (h : l.getD 0 0 ≠ 71) : first1 l = false := by
  cases hf : first1 l with
  | false => rfl
  | true =>
    have h1 := (cntB_right (first1_cnt hf).1).2
    rw [List.take_take, Nat.min_eq_left (by decide)] at h1
    rcases l with _ | ⟨x, r⟩
    · cases h1
    · simp [letters] at h1
      simp [h1.1] at h

/-- What part i is found as. -/
theorem part_is {l : List Nat} {cs : List (Nat × List Nat)} (hl : ∀ c ∈ cs, c.2.length < 4294967296) {at0 : Int} {i : Nat} {c : Nat × List Nat} (h : cs[i]? = some c) (s : Int) (hs : s = at0 + ((dataOf (cs.take i)).length : Nat))
    (wb : Bool) (hwb : wb = (decide (0 ≤ s) && decide (s + (c.2.length : Nat) ≤ (l.length : Int)) && decide (sum ((l.drop s.toNat).take c.2.length) = sum c.2))) :
    partOf l (tableOf cs) at0 i = ({ kind := c.1, data := if wb then (l.drop s.toNat).take c.2.length else [], at_ := s, whole := wb } : Part) := by
  have hi := (List.getElem?_eq_some_iff.1 h).1
  have e1 : startOf (tableOf cs) at0 i = s := by unfold startOf; rw [lens_box hl i (Nat.le_of_lt hi), hs]
  have e2 := tellLen_box h (hl c (List.mem_of_getElem? h))
  have e3 : wholeB l (tableOf cs) at0 i = wb := by
    unfold wholeB
    rw [e1, e2, row_sum h, right_sum _ (sum_lt _), hwb]
  unfold partOf
  rw [e3, e1, e2, row_kind h]

theorem parts_get (l t : List Nat) (at0 : Int) (n i : Nat) (h : i < n) : (partsOf l t at0 n)[i]? = some (partOf l t at0 i) := by
  unfold partsOf
  rw [List.getElem?_map, List.getElem?_range h]; rfl

theorem data_end {cs : List (Nat × List Nat)} {i : Nat} {c : Nat × List Nat} (h : cs[i]? = some c) : (dataOf (cs.take i)).length + c.2.length ≤ (dataOf cs).length := by
  have h1 := data_le cs (i + 1)
  rw [data_succ h, List.length_append] at h1
  exact h1

/-- A box that ends early. -/
theorem opened_cut {cs : List (Nat × List Nat)} (hn : cs.length < 65536) (hl : ∀ c ∈ cs, c.2.length < 4294967296) {k : Nat} (hk : 14 + 9 * cs.length ≤ k) (hk2 : k ≤ (boxOf cs).length) :
    ∃ ps, opened ((boxOf cs).take k) = some ps ∧ ps.length = cs.length ∧ ∀ i c, cs[i]? = some c → ∃ p, ps[i]? = some p ∧ p.whole = decide (18 + 9 * cs.length + (dataOf (cs.take i)).length + c.2.length ≤ k) ∧ (p.whole = true → p.data = c.2) := by
  have L1 := boxOf_len cs
  have hlk : ((boxOf cs).take k).length = k := by rw [List.length_take]; omega
  refine ⟨_, (opened_first hn (by rw [hlk]; exact hk) (by rw [List.take_take, Nat.min_eq_left (by omega), take10_box]) (by rw [List.drop_take, List.take_take, Nat.min_eq_left (by omega), tab1_box])).2, partsOf_len _ _ _ _, ?_⟩
  intro i c hc
  have hi := (List.getElem?_eq_some_iff.1 hc).1
  refine ⟨_, parts_get _ _ _ _ i hi, ?_⟩
  have hd := data_at hc
  by_cases hin : 18 + 9 * cs.length + (dataOf (cs.take i)).length + c.2.length ≤ k
  · have e : (((boxOf cs).take k).drop (18 + 9 * cs.length + (dataOf (cs.take i)).length)).take c.2.length = c.2 := by
      rw [List.drop_take, List.take_take, Nat.min_eq_left (by omega), hd]
    rw [part_is hl hc ((18 + 9 * cs.length + (dataOf (cs.take i)).length : Nat) : Int) (by omega) true (by
      rw [Int.toNat_natCast, e, hlk]
      symm
      simp only [Bool.and_eq_true, decide_eq_true_iff, and_true]
      omega)]
    have d3 : decide (18 + 9 * cs.length + (dataOf (cs.take i)).length + c.2.length ≤ k) = true := by rw [decide_eq_true_iff]; exact hin
    rw [d3, Int.toNat_natCast, if_pos rfl, e]
    exact ⟨rfl, fun _ => rfl⟩
  · rw [part_is hl hc ((18 + 9 * cs.length + (dataOf (cs.take i)).length : Nat) : Int) (by omega) false (by
      rw [hlk]
      have d2 : decide (((18 + 9 * cs.length + (dataOf (cs.take i)).length : Nat) : Int) + (c.2.length : Nat) ≤ (k : Int)) = false := by rw [decide_eq_false_iff_not]; omega
      rw [d2]; simp)]
    have d3 : decide (18 + 9 * cs.length + (dataOf (cs.take i)).length + c.2.length ≤ k) = false := by rw [decide_eq_false_iff_not]; exact hin
    rw [d3]
    exact ⟨rfl, fun h => by cases h⟩

theorem letter_box (cs : List (Nat × List Nat)) : (boxOf cs).getD 0 0 = 71 := rfl

/-- A box whose beginning is cut off. -/
theorem opened_lost {cs : List (Nat × List Nat)} (hn : cs.length < 65536) (hl : ∀ c ∈ cs, c.2.length < 4294967296) {k : Nat} (hk2 : k ≤ 18 + 9 * cs.length + (dataOf cs).length) (hg : ((boxOf cs).drop k).getD 0 0 ≠ 71) :
    ∃ ps, opened ((boxOf cs).drop k) = some ps ∧ ps.length = cs.length ∧ ∀ i c, cs[i]? = some c → ∃ p, ps[i]? = some p ∧ p.at_ = ((18 + 9 * cs.length + (dataOf (cs.take i)).length : Nat) : Int) - (k : Int) ∧
      (k ≤ 18 + 9 * cs.length + (dataOf (cs.take i)).length → p.whole = true ∧ p.data = c.2) ∧ (p.whole = true → p.data.length = c.2.length) := by
  have L1 := boxOf_len cs
  have hlk : ((boxOf cs).drop k).length = (boxOf cs).length - k := by rw [List.length_drop]
  refine ⟨_, opened_second hn (first1_no hg) (by omega) (by rw [List.drop_drop, hlk, show k + ((boxOf cs).length - k - 10) = 26 + 18 * cs.length + (dataOf cs).length from by omega, last_box])
    (by rw [List.drop_drop, hlk, show k + ((boxOf cs).length - k - 10 - 9 * cs.length - 4) = 22 + 9 * cs.length + (dataOf cs).length from by omega, tab2_box]), partsOf_len _ _ _ _, ?_⟩
  intro i c hc
  have hi := (List.getElem?_eq_some_iff.1 hc).1
  have hln := lens_box hl cs.length (Nat.le_refl _)
  rw [List.take_length] at hln
  have he := data_end hc
  have hd := data_at hc
  refine ⟨_, parts_get _ _ _ _ i hi, ?_⟩
  rw [part_is hl hc (((18 + 9 * cs.length + (dataOf (cs.take i)).length : Nat) : Int) - (k : Int)) (by rw [hln, hlk]; omega) _ rfl]
  refine ⟨rfl, fun hin => ?_, fun hw => ?_⟩
  · have e0 : (((18 + 9 * cs.length + (dataOf (cs.take i)).length : Nat) : Int) - (k : Int)).toNat = 18 + 9 * cs.length + (dataOf (cs.take i)).length - k := by omega
    have e : (((boxOf cs).drop k).drop (18 + 9 * cs.length + (dataOf (cs.take i)).length - k)).take c.2.length = c.2 := by
      rw [List.drop_drop, show k + (18 + 9 * cs.length + (dataOf (cs.take i)).length - k) = 18 + 9 * cs.length + (dataOf (cs.take i)).length from by omega, hd]
    have hw : (decide ((0 : Int) ≤ ((18 + 9 * cs.length + (dataOf (cs.take i)).length : Nat) : Int) - (k : Int)) && decide (((18 + 9 * cs.length + (dataOf (cs.take i)).length : Nat) : Int) - (k : Int) + (c.2.length : Nat) ≤ ((((boxOf cs).drop k).length : Nat) : Int)) &&
        decide (sum ((((boxOf cs).drop k).drop (((18 + 9 * cs.length + (dataOf (cs.take i)).length : Nat) : Int) - (k : Int)).toNat).take c.2.length) = sum c.2)) = true := by
      rw [e0, e, hlk]
      simp only [Bool.and_eq_true, decide_eq_true_iff, and_true]
      omega
    refine ⟨hw, ?_⟩
    dsimp only
    rw [if_pos hw, e0, e]
  · dsimp only at hw ⊢
    rw [if_pos hw]
    simp only [Bool.and_eq_true, decide_eq_true_iff] at hw
    rw [List.length_take, List.length_drop]
    omega

/-- A box whose beginning is noughts. -/
theorem opened_nought {cs : List (Nat × List Nat)} (hn : cs.length < 65536) (hl : ∀ c ∈ cs, c.2.length < 4294967296) {k : Nat} (hk1 : 1 ≤ k) (hk2 : k ≤ 18 + 9 * cs.length + (dataOf cs).length) :
    ∃ ps, opened (List.replicate k 0 ++ (boxOf cs).drop k) = some ps ∧ ps.length = cs.length ∧ ∀ i c, cs[i]? = some c → ∃ p, ps[i]? = some p ∧ p.at_ = ((18 + 9 * cs.length + (dataOf (cs.take i)).length : Nat) : Int) ∧
      (k ≤ 18 + 9 * cs.length + (dataOf (cs.take i)).length → p.whole = true ∧ p.data = c.2) ∧ (p.whole = true → p.data.length = c.2.length) := by
  have L1 := boxOf_len cs
  have hlk : (List.replicate k 0 ++ (boxOf cs).drop k).length = (boxOf cs).length := by rw [List.length_append, List.length_replicate, List.length_drop]; omega
  have hdr : ∀ j, k ≤ j → (List.replicate k 0 ++ (boxOf cs).drop k).drop j = (boxOf cs).drop j := fun j hj => by
    rw [List.drop_append, List.length_replicate, List.drop_of_length_le (by rw [List.length_replicate]; exact hj), List.nil_append, List.drop_drop, show k + (j - k) = j from by omega]
  have hg : (List.replicate k 0 ++ (boxOf cs).drop k).getD 0 0 ≠ 71 := by
    rw [List.getD_eq_getElem?_getD, List.getElem?_append_left (by rw [List.length_replicate]; omega), List.getElem?_replicate, if_pos (by omega)]
    simp
  refine ⟨_, opened_second hn (first1_no hg) (by omega) (by rw [hlk, hdr _ (by omega), show (boxOf cs).length - 10 = 26 + 18 * cs.length + (dataOf cs).length from by omega, last_box])
    (by rw [hlk, hdr _ (by omega), show (boxOf cs).length - 10 - 9 * cs.length - 4 = 22 + 9 * cs.length + (dataOf cs).length from by omega, tab2_box]), partsOf_len _ _ _ _, ?_⟩
  intro i c hc
  have hi := (List.getElem?_eq_some_iff.1 hc).1
  have hln := lens_box hl cs.length (Nat.le_refl _)
  rw [List.take_length] at hln
  have he := data_end hc
  have hd := data_at hc
  refine ⟨_, parts_get _ _ _ _ i hi, ?_⟩
  rw [part_is hl hc (((18 + 9 * cs.length + (dataOf (cs.take i)).length : Nat) : Int)) (by rw [hln, hlk]; omega) _ rfl]
  refine ⟨rfl, fun hin => ?_, fun hw => ?_⟩
  · have hw : (decide ((0 : Int) ≤ ((18 + 9 * cs.length + (dataOf (cs.take i)).length : Nat) : Int)) && decide (((18 + 9 * cs.length + (dataOf (cs.take i)).length : Nat) : Int) + (c.2.length : Nat) ≤ (((List.replicate k 0 ++ (boxOf cs).drop k).length : Nat) : Int)) &&
        decide (sum (((List.replicate k 0 ++ (boxOf cs).drop k).drop (((18 + 9 * cs.length + (dataOf (cs.take i)).length : Nat) : Int)).toNat).take c.2.length) = sum c.2)) = true := by
      rw [Int.toNat_natCast, hdr _ hin, hd, hlk]
      simp only [Bool.and_eq_true, decide_eq_true_iff, and_true]
      omega
    refine ⟨hw, ?_⟩
    dsimp only
    rw [if_pos hw, Int.toNat_natCast, hdr _ hin, hd]
  · dsimp only at hw ⊢
    rw [if_pos hw]
    simp only [Bool.and_eq_true, decide_eq_true_iff] at hw
    rw [List.length_take, List.length_drop]
    omega

/-- A box in which bits within 32 in a row are turned. -/
theorem opened_near {cs : List (Nat × List Nat)} (hn : cs.length < 65536) (hl : ∀ c ∈ cs, c.2.length < 4294967296) {m : List Nat} {f : Nat} (hb : ∀ c ∈ boxOf cs, c < 256) (hm : ∀ c ∈ m, c < 256) (h : Near (boxOf cs) m f) :
    ∃ ps, opened m = some ps ∧ ps.length = cs.length ∧ ∀ i c, cs[i]? = some c → ps[i]? = some ({ kind := c.1, at_ := ((18 + 9 * cs.length + (dataOf (cs.take i)).length : Nat) : Int), whole := decide ((m.drop (18 + 9 * cs.length + (dataOf (cs.take i)).length)).take c.2.length = c.2), data := if (m.drop (18 + 9 * cs.length + (dataOf (cs.take i)).length)).take c.2.length = c.2 then c.2 else [] } : Part) := by
  have L1 := boxOf_len cs
  have hlen := h.len
  have ho : opened m = some (partsOf m (tableOf cs) (18 + 9 * cs.length : Nat) cs.length) := by
    cases hf : first1 m with
    | true =>
      obtain ⟨k1, k2, k3⟩ := first1_cnt hf
      have e1 : m.take 10 = fixedOf cs.length := by
        have hs := near_sub h 0 10 (by omega)
        rw [List.drop_zero, List.drop_zero, take10_box] at hs
        exact right_near (fun c hc => hb c (by rw [← take10_box] at hc; exact List.mem_of_mem_take hc)) (fun c hc => hm c (List.mem_of_mem_take hc)) hs (right_summed _) (cntB_right k1).1
      have en : n1 m = cs.length := by rw [n1, e1, cntN_fixed hn]
      have e2 : (m.drop 10).take (9 * cs.length + 4) = tableOf cs := by
        have hs := near_sub h 10 (9 * cs.length + 4) (by omega)
        rw [tab1_box] at hs
        rw [table1, en] at k3
        exact right_near (fun c hc => hb c (by rw [← tab1_box] at hc; exact List.mem_of_mem_drop (List.mem_of_mem_take hc))) (sub_lt hm _ _) hs (right_summed _) k3
      exact (opened_first hn (by omega) e1 e2).2
    | false =>
      have hf2 : f < 8 * (14 + 9 * cs.length) := by
        rcases Nat.lt_or_ge f (8 * (14 + 9 * cs.length)) with hlt | hge
        · exact hlt
        · exfalso
          have e1 := near_same hb hm h 0 10 (by omega) (.inl (by omega))
          rw [List.drop_zero, List.drop_zero, take10_box] at e1
          have e2 := near_same hb hm h 10 (9 * cs.length + 4) (by omega) (.inl (by omega))
          rw [tab1_box] at e2
          rw [(opened_first hn (by omega) e1 e2).1] at hf
          cases hf
      have e1 := near_same hb hm h (26 + 18 * cs.length + (dataOf cs).length) 10 (by omega) (.inr (by omega))
      rw [last_box, List.take_of_length_le (by rw [List.length_drop]; omega), List.take_of_length_le (by rw [fixedOf_len]; exact Nat.le_refl _)] at e1
      have e2 := near_same hb hm h (22 + 9 * cs.length + (dataOf cs).length) (9 * cs.length + 4) (by omega) (.inr (by omega))
      rw [tab2_box] at e2
      have hln := lens_box hl cs.length (Nat.le_refl _)
      rw [List.take_length] at hln
      have := opened_second hn hf (by omega) (by rw [show m.length - 10 = 26 + 18 * cs.length + (dataOf cs).length from by omega]; exact e1) (by rw [show m.length - 10 - 9 * cs.length - 4 = 22 + 9 * cs.length + (dataOf cs).length from by omega]; exact e2)
      rw [this, hln]
      congr 2
      omega
  refine ⟨_, ho, partsOf_len _ _ _ _, ?_⟩
  intro i c hc
  have hi := (List.getElem?_eq_some_iff.1 hc).1
  have hd := data_at hc
  have he := data_end hc
  have hw : decide (sum ((m.drop (18 + 9 * cs.length + (dataOf (cs.take i)).length)).take c.2.length) = sum c.2) = decide ((m.drop (18 + 9 * cs.length + (dataOf (cs.take i)).length)).take c.2.length = c.2) := by
    rw [Bool.eq_iff_iff, decide_eq_true_iff, decide_eq_true_iff]
    refine ⟨fun hs => ?_, fun hs => by rw [hs]⟩
    have := near_sum hb hm h (18 + 9 * cs.length + (dataOf (cs.take i)).length) c.2.length (by omega) (by rw [hd, hs])
    rw [hd] at this
    exact this
  rw [parts_get _ _ _ _ i hi, part_is hl hc ((18 + 9 * cs.length + (dataOf (cs.take i)).length : Nat) : Int) (by omega) (decide ((m.drop (18 + 9 * cs.length + (dataOf (cs.take i)).length)).take c.2.length = c.2)) (by
    rw [Int.toNat_natCast, hw]
    have d1 : decide ((0 : Int) ≤ ((18 + 9 * cs.length + (dataOf (cs.take i)).length : Nat) : Int)) = true := by rw [decide_eq_true_iff]; omega
    have d2 : decide (((18 + 9 * cs.length + (dataOf (cs.take i)).length : Nat) : Int) + (c.2.length : Nat) ≤ ((m.length : Nat) : Int)) = true := by rw [decide_eq_true_iff]; omega
    rw [d1, d2]; simp)]
  rw [Int.toNat_natCast]
  congr 2
  by_cases e : (m.drop (18 + 9 * cs.length + (dataOf (cs.take i)).length)).take c.2.length = c.2
  · rw [if_pos e, if_pos (by rw [decide_eq_true_iff]; exact e), e]
  · rw [if_neg e, if_neg (by rw [decide_eq_true_iff]; exact e)]

end Go.Proofs.Ytjnfnocmjpboiaa
