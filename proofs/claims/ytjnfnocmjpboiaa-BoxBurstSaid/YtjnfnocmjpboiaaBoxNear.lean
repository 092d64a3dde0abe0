/-
  Layer 7 (box): plain laws: what parts from a box within 32 bits in a row is none.
-/
import Derived.Test.YtjnfnocmjpboiaaBoxPlain
import Derived.Test.YtjnfnocmjpboiaaCrcBits
namespace Go.Proofs.Ytjnfnocmjpboiaa
open CrcMath BoxMath

theorem dbits_eq {l m : List Nat} (hl : ∀ c ∈ l, c < 256) (hm : ∀ c ∈ m, c < 256) (hlen : m.length = l.length) (h : ∀ p, p < 8 * l.length → dbit l m p = false) : m = l := by
  apply List.ext_getElem hlen
  intro i h1 h2
  have e : ∀ j, (l.getD i 0 ^^^ m.getD i 0).testBit j = false := by
    intro j
    rcases Nat.lt_or_ge j 8 with hj | hj
    · have := h (8 * i + j) (by omega)
      rw [dbit_test, show (8 * i + j) / 8 = i from by omega, show (8 * i + j) % 8 = j from by omega] at this
      exact this
    · exact Nat.testBit_lt_two_pow (Nat.lt_of_lt_of_le (Nat.xor_lt_two_pow (n := 8) (getD_lt hl i) (getD_lt hm i)) (Nat.pow_le_pow_right (by decide) hj))
  have e2 : l.getD i 0 = m.getD i 0 := by
    apply Nat.eq_of_testBit_eq
    intro j
    have := e j
    rw [Nat.testBit_xor] at this
    revert this
    cases (l.getD i 0).testBit j <;> cases (m.getD i 0).testBit j <;> simp
  rw [List.getD_eq_getElem?_getD, List.getD_eq_getElem?_getD, List.getElem?_eq_getElem h1, List.getElem?_eq_getElem h2] at e2
  exact e2.symm

theorem getD_sub (l : List Nat) (a q i : Nat) (h : i < q) : ((l.drop a).take q).getD i 0 = l.getD (a + i) 0 := by
  rw [List.getD_eq_getElem?_getD, List.getElem?_take, if_pos h, List.getElem?_drop, ← List.getD_eq_getElem?_getD]

theorem dbit_sub (l m : List Nat) (a q p : Nat) (h : p < 8 * q) : dbit ((l.drop a).take q) ((m.drop a).take q) p = dbit l m (8 * a + p) := by
  unfold dbit
  rw [getD_sub l a q _ (by omega), getD_sub m a q _ (by omega), show (8 * a + p) / 8 = a + p / 8 from by omega, show (8 * a + p) % 8 = p % 8 from by omega]

/-- Two texts that part within 32 bits in a row at most. -/
structure Near (l m : List Nat) (f : Nat) : Prop where
  len : m.length = l.length
  out : ∀ p, p < 8 * l.length → dbit l m p = true → f ≤ p ∧ p < f + 32

theorem sub_lt {l : List Nat} (hl : ∀ c ∈ l, c < 256) (a q : Nat) : ∀ c ∈ (l.drop a).take q, c < 256 := fun c hc => hl c (List.mem_of_mem_drop (List.mem_of_mem_take hc))

theorem near_same {l m : List Nat} {f : Nat} (hl : ∀ c ∈ l, c < 256) (hm : ∀ c ∈ m, c < 256) (h : Near l m f) (a q : Nat) (ha : a + q ≤ l.length) (ho : 8 * (a + q) ≤ f ∨ f + 32 ≤ 8 * a) : (m.drop a).take q = (l.drop a).take q := by
  have hlen := h.len
  have h1 : ((l.drop a).take q).length = q := by rw [List.length_take, List.length_drop]; omega
  have h2 : ((m.drop a).take q).length = q := by rw [List.length_take, List.length_drop]; omega
  refine dbits_eq (sub_lt hl a q) (sub_lt hm a q) (by omega) fun p hp => ?_
  rw [h1] at hp
  rw [dbit_sub l m a q p hp]
  cases hd : dbit l m (8 * a + p) with
  | false => rfl
  | true => have := h.out (8 * a + p) (by omega) hd; omega

theorem near_sum {l m : List Nat} {f : Nat} (hl : ∀ c ∈ l, c < 256) (hm : ∀ c ∈ m, c < 256) (h : Near l m f) (a q : Nat) (ha : a + q ≤ l.length) (hs : sum ((l.drop a).take q) = sum ((m.drop a).take q)) : (m.drop a).take q = (l.drop a).take q := by
  have hlen := h.len
  have h1 : ((l.drop a).take q).length = q := by rw [List.length_take, List.length_drop]; omega
  have h2 : ((m.drop a).take q).length = q := by rw [List.length_take, List.length_drop]; omega
  refine dbits_eq (sub_lt hl a q) (sub_lt hm a q) (by omega) ((burst_told (sub_lt hl a q) (sub_lt hm a q) (by omega) (f - 8 * a) fun p hp hd => ?_).1 hs)
  rw [h1] at hp
  rw [dbit_sub l m a q p hp] at hd
  have := h.out (8 * a + p) (by omega) hd
  omega

theorem fixed_inj {n m : Nat} (hn : n < 65536) (hm : m < 65536) (h : fixedOf n = fixedOf m) : n = m := by
  have := congrArg cntN h
  rwa [cntN_fixed hn, cntN_fixed hm] at this

theorem drop10_box (cs : List (Nat × List Nat)) : (boxOf cs).drop 10 = tableOf cs ++ ([0, 0, 0, 0] ++ (dataOf cs ++ ([0, 0, 0, 0] ++ (tableOf cs ++ fixedOf cs.length)))) := by
  unfold boxOf
  exact List.drop_left' (fixedOf_len _)

theorem tab1_box (cs : List (Nat × List Nat)) : ((boxOf cs).drop 10).take (9 * cs.length + 4) = tableOf cs := by
  rw [drop10_box]
  exact List.take_left' (tableOf_len cs)

theorem tail_box (cs : List (Nat × List Nat)) : (boxOf cs).drop (22 + 9 * cs.length + (dataOf cs).length) = tableOf cs ++ fixedOf cs.length := by
  have e : boxOf cs = (fixedOf cs.length ++ (tableOf cs ++ ([0, 0, 0, 0] ++ (dataOf cs ++ [0, 0, 0, 0])))) ++ (tableOf cs ++ fixedOf cs.length) := by
    simp only [boxOf, List.append_assoc]
  rw [e]
  exact List.drop_left' (by simp only [List.length_append, fixedOf_len, tableOf_len, List.length_cons, List.length_nil]; omega)

theorem tab2_box (cs : List (Nat × List Nat)) : ((boxOf cs).drop (22 + 9 * cs.length + (dataOf cs).length)).take (9 * cs.length + 4) = tableOf cs := by
  rw [tail_box]
  exact List.take_left' (tableOf_len cs)

theorem last_box (cs : List (Nat × List Nat)) : (boxOf cs).drop (26 + 18 * cs.length + (dataOf cs).length) = fixedOf cs.length := by
  rw [show 26 + 18 * cs.length + (dataOf cs).length = 22 + 9 * cs.length + (dataOf cs).length + (9 * cs.length + 4) from by omega, ← List.drop_drop, tail_box]
  exact List.drop_left' (tableOf_len cs)

theorem le_inj {s t : Nat} (hs : s < 4294967296) (ht : t < 4294967296) (h : le s = le t) : s = t := by
  simp only [le, List.cons.injEq, and_true] at h
  omega

/-- A table tells the kinds, the lengths and the sums. -/
theorem table_tells {cs cs' : List (Nat × List Nat)} (hl : ∀ c ∈ cs, c.2.length < 4294967296) (hl' : ∀ c ∈ cs', c.2.length < 4294967296) (h : tableOf cs = tableOf cs') {i : Nat} {c c' : Nat × List Nat} (hc : cs[i]? = some c) (hc' : cs'[i]? = some c') :
    c.1 = c'.1 ∧ c.2.length = c'.2.length ∧ sum c.2 = sum c'.2 := by
  refine ⟨?_, ?_, ?_⟩
  · rw [← row_kind hc, h, row_kind hc']
  · rw [← tellLen_box hc (hl _ (List.mem_of_getElem? hc)), h, tellLen_box hc' (hl' _ (List.mem_of_getElem? hc'))]
  · apply le_inj (sum_lt _) (sum_lt _)
    rw [← row_sum hc, h, row_sum hc']

theorem data_lens {cs cs' : List (Nat × List Nat)} (hl : ∀ c ∈ cs, c.2.length < 4294967296) (hl' : ∀ c ∈ cs', c.2.length < 4294967296) (hn : cs.length = cs'.length) (h : tableOf cs = tableOf cs') (i : Nat) (hi : i ≤ cs.length) : (dataOf (cs.take i)).length = (dataOf (cs'.take i)).length := by
  rw [← lens_box hl i hi, h, lens_box hl' i (by omega)]

theorem len_of_table {cs cs' : List (Nat × List Nat)} (hl : ∀ c ∈ cs, c.2.length < 4294967296) (hl' : ∀ c ∈ cs', c.2.length < 4294967296) (hn : cs.length = cs'.length) (h : tableOf cs = tableOf cs') : (boxOf cs).length = (boxOf cs').length := by
  have := data_lens hl hl' hn h cs.length (Nat.le_refl _)
  rw [List.take_length, hn, List.take_length] at this
  rw [boxOf_len, boxOf_len, this, hn]

/-- A box near a box is that box. -/
theorem near_box {cs cs' : List (Nat × List Nat)} {f : Nat} (hn : cs.length < 65536) (hn' : cs'.length < 65536) (hl : ∀ c ∈ cs, c.2.length < 4294967296) (hl' : ∀ c ∈ cs', c.2.length < 4294967296)
    (hb : ∀ c ∈ boxOf cs, c < 256) (hb' : ∀ c ∈ boxOf cs', c < 256) (h : Near (boxOf cs) (boxOf cs') f) : boxOf cs' = boxOf cs := by
  have hlen := h.len
  have L1 := boxOf_len cs
  have L2 := boxOf_len cs'
  have e1 : cs.length = cs'.length := by
    by_cases hf : 80 ≤ f
    · have := near_same hb hb' h 0 10 (by omega) (.inl (by omega))
      rw [List.drop_zero, List.drop_zero, take10_box, take10_box] at this
      exact fixed_inj hn hn' this.symm
    · have := near_same hb hb' h (26 + 18 * cs.length + (dataOf cs).length) 10 (by omega) (.inr (by omega))
      rw [last_box, show 26 + 18 * cs.length + (dataOf cs).length = 26 + 18 * cs'.length + (dataOf cs').length from by omega, last_box, List.take_of_length_le (by rw [fixedOf_len]; exact Nat.le_refl _), List.take_of_length_le (by rw [fixedOf_len]; exact Nat.le_refl _)] at this
      exact fixed_inj hn hn' this.symm
  have e2 : tableOf cs = tableOf cs' := by
    by_cases hf : 8 * (14 + 9 * cs.length) ≤ f
    · have := near_same hb hb' h 10 (9 * cs.length + 4) (by omega) (.inl (by omega))
      rw [tab1_box, e1, tab1_box] at this
      exact this.symm
    · have := near_same hb hb' h (22 + 9 * cs.length + (dataOf cs).length) (9 * cs.length + 4) (by omega) (.inr (by omega))
      rw [tab2_box, show 22 + 9 * cs.length + (dataOf cs).length = 22 + 9 * cs'.length + (dataOf cs').length from by omega, e1, tab2_box] at this
      exact this.symm
  have e3 : cs' = cs := by
    apply List.ext_getElem?
    intro i
    by_cases hi : i < cs.length
    · obtain ⟨c, hc⟩ : ∃ c, cs[i]? = some c := ⟨_, List.getElem?_eq_getElem hi⟩
      obtain ⟨c', hc'⟩ : ∃ c', cs'[i]? = some c' := ⟨_, List.getElem?_eq_getElem (show i < cs'.length by omega)⟩
      obtain ⟨t1, t2, t3⟩ := table_tells hl hl' e2 hc hc'
      have hd := data_lens hl hl' e1 e2 i (by omega)
      have d1 := data_at hc
      have d2 := data_at hc'
      rw [← e1, ← hd, ← t2] at d2
      have hbd : (dataOf (cs.take i)).length + c.2.length ≤ (dataOf cs).length := by
        have h1 := data_le cs (i + 1)
        rw [data_succ hc, List.length_append] at h1
        exact h1
      have hs : sum (((boxOf cs).drop (18 + 9 * cs.length + (dataOf (cs.take i)).length)).take c.2.length) = sum (((boxOf cs').drop (18 + 9 * cs.length + (dataOf (cs.take i)).length)).take c.2.length) := by
        rw [d1, d2]; exact t3
      have := near_sum hb hb' h (18 + 9 * cs.length + (dataOf (cs.take i)).length) c.2.length (by omega) hs
      rw [d1, d2] at this
      rw [hc, hc']
      congr 1
      exact Prod.ext t1.symm this
    · rw [List.getElem?_eq_none (by omega), List.getElem?_eq_none (by omega)]
  rw [e3]

/-- What is a box is the box of some chunks. -/
theorem right_box {l : List Nat} (hl : l.length ≤ 500000) (_hb : ∀ c ∈ l, c < 256) (h : rightBox l = true) : ∃ cs, l = boxOf cs ∧ cs.length < 65536 ∧ ∀ c ∈ cs, c.2.length < 4294967296 := by
  unfold rightBox at h
  cases ho : opened l with
  | none => rw [ho] at h; cases h
  | some ps =>
    rw [ho] at h
    simp only [Bool.and_eq_true, decide_eq_true_iff] at h
    refine ⟨ps.map chunkOf, h.2.symm, ?_, ?_⟩
    · rw [List.length_map]
      have := opened_len ho
      omega
    · intro c hc
      obtain ⟨p, hp, rfl⟩ := List.mem_map.1 hc
      have := opened_data ho p hp
      show p.data.length < _
      omega

/-- What is near a box is that box, or none. -/
theorem near_right {cs : List (Nat × List Nat)} {m : List Nat} {f : Nat} (hn : cs.length < 65536) (hl : ∀ c ∈ cs, c.2.length < 4294967296) (hm : m.length ≤ 500000)
    (hb : ∀ c ∈ boxOf cs, c < 256) (hb' : ∀ c ∈ m, c < 256) (h : Near (boxOf cs) m f) : rightBox m = decide (m = boxOf cs) := by
  by_cases e : m = boxOf cs
  · rw [e, rightBox_box hn hl]; simp
  · have : decide (m = boxOf cs) = false := by simp [e]
    rw [this]
    cases hr : rightBox m with
    | false => rfl
    | true =>
      obtain ⟨cs', rfl, h1, h2⟩ := right_box hm hb' hr
      exact absurd (near_box hn h1 hl h2 hb hb' h) e

/-- A box with more behind it is none. -/
theorem more_right {cs : List (Nat × List Nat)} {m : List Nat} (hn : cs.length < 65536) (hl : ∀ c ∈ cs, c.2.length < 4294967296) (hm : (boxOf cs ++ m).length ≤ 500000)
    (hb : ∀ c ∈ boxOf cs ++ m, c < 256) : rightBox (boxOf cs ++ m) = decide (m.length = 0) := by
  by_cases e : m.length = 0
  · have : m = [] := List.eq_nil_of_length_eq_zero e
    subst this
    rw [List.append_nil, rightBox_box hn hl]; simp
  · have : decide (m.length = 0) = false := by simp [e]
    rw [this]
    cases hr : rightBox (boxOf cs ++ m) with
    | false => rfl
    | true =>
      obtain ⟨cs', h0, h1, h2⟩ := right_box hm hb hr
      have L1 := boxOf_len cs
      have L2 := boxOf_len cs'
      have e1 : cs.length = cs'.length := by
        have := congrArg (List.take 10) h0
        rw [List.take_append_of_le_length (by omega), take10_box, take10_box] at this
        exact fixed_inj hn h1 this
      have e2 : tableOf cs = tableOf cs' := by
        have : (List.drop 10 (boxOf cs ++ m)).take (9 * cs.length + 4) = (List.drop 10 (boxOf cs')).take (9 * cs.length + 4) := by rw [h0]
        rw [List.drop_append_of_le_length (by omega), List.take_append_of_le_length (by rw [List.length_drop]; omega), tab1_box, e1, tab1_box] at this
        exact this
      have e3 := len_of_table hl h2 e1 e2
      have e4 := congrArg List.length h0
      rw [List.length_append] at e4
      omega

/-- The beginning of a box is none. -/
theorem cut_right {cs : List (Nat × List Nat)} {k : Nat} (hn : cs.length < 65536) (hl : ∀ c ∈ cs, c.2.length < 4294967296) (hm : (boxOf cs).length ≤ 500000)
    (hb : ∀ c ∈ boxOf cs, c < 256) (hk : 14 + 9 * cs.length ≤ k) (hk2 : k < (boxOf cs).length) : rightBox ((boxOf cs).take k) = false := by
  cases hr : rightBox ((boxOf cs).take k) with
  | false => rfl
  | true =>
    obtain ⟨cs', h0, h1, h2⟩ := right_box (by rw [List.length_take]; omega) (fun c hc => hb c (List.mem_of_mem_take hc)) hr
    have L1 := boxOf_len cs
    have L2 := boxOf_len cs'
    have e1 : cs.length = cs'.length := by
      have := congrArg (List.take 10) h0
      rw [List.take_take, Nat.min_eq_left (by omega), take10_box, take10_box] at this
      exact fixed_inj hn h1 this
    have e2 : tableOf cs = tableOf cs' := by
      have : (List.drop 10 ((boxOf cs).take k)).take (9 * cs.length + 4) = (List.drop 10 (boxOf cs')).take (9 * cs.length + 4) := by rw [h0]
      rw [List.drop_take, List.take_take, Nat.min_eq_left (by omega), tab1_box, e1, tab1_box] at this
      exact this
    have e3 := len_of_table hl h2 e1 e2
    have e4 := congrArg List.length h0
    rw [List.length_take] at e4
    omega

theorem box_lt {cs : List (Nat × List Nat)} (h : ∀ c ∈ cs, c.1 < 256 ∧ ∀ d ∈ c.2, d < 256) : ∀ c ∈ boxOf cs, c < 256 := by
  have hf : ∀ c ∈ fixedOf cs.length, c < 256 := by
    refine summed_lt fun c hc => ?_
    rcases List.mem_append.1 hc with hc | hc
    · simp [letters] at hc; omega
    · exact be_lt _ _ c hc
  have ht : ∀ c ∈ tableOf cs, c < 256 := by
    refine summed_lt fun c hc => ?_
    obtain ⟨x, hx, hc⟩ := List.mem_flatMap.1 hc
    rcases List.mem_cons.1 hc with rfl | hc
    · exact (h x hx).1
    · rcases List.mem_append.1 hc with hc | hc
      · exact be_lt _ _ c hc
      · exact le_sum_lt _ c hc
  have hd : ∀ c ∈ dataOf cs, c < 256 := fun c hc => by
    obtain ⟨x, hx, hc⟩ := List.mem_flatMap.1 hc
    exact (h x hx).2 c hc
  have hz : ∀ c ∈ ([0, 0, 0, 0] : List Nat), c < 256 := by decide
  intro c hc
  unfold boxOf at hc
  simp only [List.mem_append] at hc
  rcases hc with hc | hc | hc | hc | hc | hc | hc
  · exact hf c hc
  · exact ht c hc
  · exact hz c hc
  · exact hd c hc
  · exact hz c hc
  · exact ht c hc
  · exact hf c hc

end Go.Proofs.Ytjnfnocmjpboiaa
