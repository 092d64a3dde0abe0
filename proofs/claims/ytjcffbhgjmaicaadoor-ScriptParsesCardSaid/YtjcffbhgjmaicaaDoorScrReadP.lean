/-
  Plain law: layer 55 (script): what a line is read as, word by word.
-/
import Derived.Test.YtjcffbhgjmaicaaDoorScrParse
import Derived.Test.YtjcffbhgjmaicaaDoorScrBodyP
import Derived.Lib.AtoiAll
import Derived.Lib.SplitLaws
namespace Go.Proofs.YtjcffbhgjmaicaaDoor.Script
open Go.Lib

/-! ### The library's words and ours -/

theorem index_cons_ne {c b : UInt8} (h : c ≠ b) (l : List UInt8) : index (c :: l) [b] = if index l [b] == -1 then -1 else index l [b] + 1 := by
  have hp : ([b] : List UInt8).isPrefixOf (c :: l) = false := by simp [List.isPrefixOf, Ne.symm h]
  rw [index, hp]; simp

theorem split_lib : ∀ (l : List UInt8), splitK [32] 0 (count l [32]) l = splitB l
  | [] => by rw [count_miss (by simp [index])]; rfl
  | c :: r => by
    have ih := split_lib r
    by_cases hc : c = 32
    · subst hc
      have hix : index (32 :: r) [32] = ((0 : Nat) : Int) := by rw [index]; simp [List.isPrefixOf]
      rw [count_cons_eq, Nat.add_comm, splitK, hix]
      rw [splitB, if_pos rfl, ← ih]
      simp
    · rw [count_cons_ne c 32 r hc, splitB, if_neg hc]
      have hx := index_cons_ne hc r
      by_cases hm : index r [32] = -1
      · rw [count_miss hm] at ih ⊢
        rw [splitK] at ih ⊢
        rw [← ih]
      · have hge := index_ge r [32]
        obtain ⟨j, hj⟩ : ∃ j : Nat, index r [32] = j := ⟨(index r [32]).toNat, by omega⟩
        have hc1 := count_hit (sub := [32]) (by simp) hj
        obtain ⟨k, hk⟩ : ∃ k, count r [32] = k + 1 := ⟨count (r.drop (j + [32].length)) [32], by rw [hc1]; omega⟩
        rw [hk] at ih ⊢
        rw [splitK, if_neg (by rw [beq_iff_eq]; exact hm), hj] at ih
        have hx2 : index (c :: r) [32] = ((j + 1 : Nat) : Int) := by rw [hx, if_neg (by rw [beq_iff_eq]; exact hm), hj]; omega
        rw [splitK, if_neg (by rw [beq_iff_eq]; omega), hx2, ← ih]
        simp

theorem cut_lib (s : List UInt8) : cut s [10] = (firstLine s, restLines s, hasEnd s) := by
  induction s with
  | nil => rfl
  | cons c r ih =>
    by_cases hc : c = 10
    · subst hc
      have hix : index (10 :: r) [10] = ((0 : Nat) : Int) := by rw [index]; simp [List.isPrefixOf]
      unfold cut
      rw [hix, if_pos (by omega)]
      simp [firstLine, restLines, hasEnd]
    · have hx := index_cons_ne hc r
      have f1 : firstLine (c :: r) = c :: firstLine r := by unfold firstLine; rw [List.takeWhile_cons_of_pos (by simp [hc])]
      have f2 : restLines (c :: r) = restLines r := by unfold restLines; rw [List.dropWhile_cons_of_pos (by simp [hc])]
      have f3 : hasEnd (c :: r) = hasEnd r := by
        unfold hasEnd
        rw [List.contains_cons, beq_eq_false_iff_ne.2 (Ne.symm hc), Bool.false_or]
      rw [f1, f2, f3]
      unfold cut at ih ⊢
      by_cases hm : index r [10] = -1
      · have hx2 : index (c :: r) [10] = -1 := by rw [hx, if_pos (by rw [beq_iff_eq]; exact hm)]
        rw [hx2, if_neg (by omega)]
        rw [if_neg (by omega)] at ih
        injection ih with i1 i2
        injection i2 with i2 i3
        rw [← i1, ← i2, ← i3]
      · have hge := index_ge r [10]
        obtain ⟨j, hj⟩ : ∃ j : Nat, index r [10] = j := ⟨(index r [10]).toNat, by omega⟩
        have hx2 : index (c :: r) [10] = (j : Int) + 1 := by rw [hx, if_neg (by rw [beq_iff_eq]; exact hm), hj]
        rw [hx2, if_pos (by omega)]
        rw [hj, if_pos (by omega)] at ih
        injection ih with i1 i2
        injection i2 with i2 i3
        rw [← i1, ← i2, ← i3]
        have e : ((j : Int) + 1).toNat = j + 1 := by omega
        rw [e]
        simp

/-! ### Numbers -/

def numW (w : List UInt8) : Option Int := match atoiAll w with | .ok v => some v | _ => none

def numsOf : List (List UInt8) → Option (List Int)
  | [] => some []
  | w :: ws => match numW w, numsOf ws with
    | some v, some l => some (v :: l)
    | _, _ => none

theorem numsOf_append (a b : List (List UInt8)) : numsOf (a ++ b) = match numsOf a, numsOf b with
    | some x, some y => some (x ++ y)
    | _, _ => none := by
  induction a with
  | nil => simp only [List.nil_append, numsOf]; cases numsOf b <;> rfl
  | cons w a ih =>
    simp only [List.cons_append, numsOf, ih]
    cases numW w <;> cases numsOf a <;> cases numsOf b <;> rfl

theorem numsOf_length : ∀ {a : List (List UInt8)} {l : List Int}, numsOf a = some l → l.length = a.length
  | [], l, h => by simp [numsOf] at h; subst h; rfl
  | w :: a, l, h => by
    simp only [numsOf] at h
    cases hw : numW w with
    | none => rw [hw] at h; cases h
    | some v =>
      cases ha : numsOf a with
      | none => rw [hw, ha] at h; cases h
      | some m =>
        rw [hw, ha] at h
        injection h with h
        subst h
        rw [List.length_cons, List.length_cons, numsOf_length ha]

def val (acc : Nat) (l : List UInt8) : Nat := l.foldl (fun n c => n * 10 + (c.toNat - 48)) acc

theorem val_ge : ∀ (l : List UInt8) (acc : Nat), acc ≤ val acc l
  | [], acc => Nat.le_refl _
  | c :: r, acc => by
    have := val_ge r (acc * 10 + (c.toNat - 48))
    unfold val at this ⊢
    rw [List.foldl_cons]
    omega

theorem parse_val : ∀ (l : List UInt8) (acc : Nat), (∀ c ∈ l, 48 ≤ c.toNat ∧ c.toNat ≤ 57) → val acc l < 1000000000000000000 → parseUint10 acc l = .ok (val acc l)
  | [], acc, _, _ => rfl
  | c :: r, acc, h, hv => by
    have hc := h c (by simp)
    have e : val acc (c :: r) = val (acc * 10 + (c.toNat - 48)) r := rfl
    have h1 := val_ge r (acc * 10 + (c.toNat - 48))
    rw [e] at hv ⊢
    unfold parseUint10
    rw [if_pos hc, if_neg (by omega), if_neg (by omega)]
    exact parse_val r _ (fun d hd => h d (by simp [hd])) hv

theorem parse_digits {u : Nat} (hu : u ≤ 1000000000) : parseMag (decDigits u) = .ok u := by
  have hs : val 0 (decDigits u) = u := spell_digits u
  unfold parseMag
  rw [if_neg (decDigits_ne u), parse_val _ _ (decDigits_digit u) (by omega), hs]

theorem atoi_itoa {n : Int} (h : small n = true) : numW (itoa n) = some n := by
  unfold small at h
  simp only [Bool.and_eq_true, decide_eq_true_iff] at h
  unfold numW
  have key : atoiAll (itoa n) = .ok n := by
    unfold itoa
    by_cases hn : n < 0
    · rw [if_pos hn]
      unfold atoiAll
      simp only
      have h45 : (45 : UInt8).toNat = 45 := rfl
      rw [if_pos (.inr h45), parse_digits (by omega)]
      simp only [h45, not_true_eq_false, false_and, if_false, true_and, if_true]
      rw [if_neg (by omega)]
      congr 1
      omega
    · rw [if_neg hn]
      rcases hd : decDigits n.toNat with _ | ⟨c, r⟩
      · exact absurd hd (decDigits_ne _)
      · have hc := decDigits_digit n.toNat c (by rw [hd]; simp)
        have h43 : ¬ (c.toNat = 43 ∨ c.toNat = 45) := by omega
        have h45 : ¬ c.toNat = 45 := by omega
        unfold atoiAll
        simp only
        rw [if_neg h43, ← hd, parse_digits (by omega)]
        simp only [h45, false_and, not_false_eq_true, true_and, if_false]
        rw [if_neg (by omega)]
        congr 1
        omega
  rw [key]

theorem numsOf_itoa : ∀ {l : List Int}, l.all small = true → numsOf (l.map itoa) = some l
  | [], _ => rfl
  | n :: l, h => by
    rw [List.all_cons, Bool.and_eq_true] at h
    simp only [List.map_cons, numsOf, atoi_itoa h.1, numsOf_itoa h.2]

/-! ### What a line is read as -/

/-- The kind that a word is of; 0: of none. -/
def kindOf (w : List UInt8) : Int := match shapes.findIdx? (fun x => decide (x.1 = w)) with | some i => (i : Int) + 1 | none => 0

def manyOf (k : Int) : Nat := match shape k with | some x => x.2 | none => 0

def emptyB : Body := { sn := 0, pn := 0, p := [], tn := 0, t := [], k := [] }
/-- Four numbers. -/
def pad (l : List Int) : List Int := l ++ List.replicate (4 - l.length) 0

/-- The step that a kind, a name and numbers make, before it is looked at. -/
def candN (k : Int) (nm : List UInt8) (ws : List (List UInt8)) : Option Step :=
  match numsOf ws with
  | none => none
  | some l =>
    if l.length < manyOf k then none
    else if k = 1 then (match bodyOf (l.drop (manyOf k)) with | none => none | some b => some { kind := k, name := nm, n := pad (l.take (manyOf k)), body := b })
    else if manyOf k < l.length then none
    else some { kind := k, name := nm, n := pad (l.take (manyOf k)), body := emptyB }

def candW : List (List UInt8) → Option Step
  | [] => none
  | w :: ws =>
    if kindOf w = 0 then none
    else if kindOf w = 1 then (match ws with | [] => none | nm :: ws' => candN 1 nm ws')
    else candN (kindOf w) [] ws

theorem kindOf_range (w : List UInt8) : 0 ≤ kindOf w ∧ kindOf w ≤ 13 := by
  unfold kindOf
  cases h : shapes.findIdx? (fun x => decide (x.1 = w)) with
  | none => simp
  | some i =>
    have := (List.findIdx?_eq_some_iff_getElem.1 h).1
    have hl : shapes.length = 13 := rfl
    simp only
    omega

theorem kindOf_shape {w : List UInt8} (h : kindOf w ≠ 0) : shape (kindOf w) = some (w, manyOf (kindOf w)) := by
  have hr := kindOf_range w
  unfold manyOf
  have key : ∃ m, shape (kindOf w) = some (w, m) := by
    unfold kindOf at h hr ⊢
    cases hi : shapes.findIdx? (fun x => decide (x.1 = w)) with
    | none => rw [hi] at h; exact absurd rfl h
    | some i =>
      rw [hi] at hr
      simp only at hr ⊢
      obtain ⟨h1, h2, -⟩ := List.findIdx?_eq_some_iff_getElem.1 hi
      simp only [decide_eq_true_iff] at h2
      unfold shape
      rw [if_pos (by omega), show ((i : Int) + 1 - 1).toNat = i from by omega, List.getElem?_eq_getElem h1]
      exact ⟨shapes[i].2, by rw [← h2]⟩
  obtain ⟨m, hm⟩ := key
  rw [hm]

theorem kindOf_of {k : Int} {w : List UInt8} {m : Nat} (h : shape k = some (w, m)) : kindOf w = k := by
  have hk := shape_mem h
  have hne : kindOf w ≠ 0 := by
    unfold kindOf
    cases hi : shapes.findIdx? (fun x => decide (x.1 = w)) with
    | none =>
      rw [List.findIdx?_eq_none_iff] at hi
      have := hi _ hk.1
      simp at this
    | some i => simp only; omega
  exact word_inj (kindOf_shape hne) h

theorem kindOf_none {w : List UInt8} (h : kindOf w = 0) {k : Int} {m : Nat} : shape k ≠ some (w, m) := by
  intro hs
  rw [kindOf_of hs] at h
  have := shape_mem hs
  omega

theorem pad_length {l : List Int} (h : l.length ≤ 4) : (pad l).length = 4 := by
  unfold pad
  rw [List.length_append, List.length_replicate]
  omega

theorem candN_wf {k : Int} {nm : List UInt8} {ws : List (List UInt8)} {x : Step} (h : candN k nm ws = some x) : Wf x := by
  have hm4 : manyOf k ≤ 4 := by
    unfold manyOf
    split
    · rename_i x hx
      exact shapes_many _ (shape_mem hx).1
    · omega
  unfold candN at h
  split at h
  · cases h
  · rename_i l _
    split at h
    · cases h
    · have hp : (pad (l.take (manyOf k))).length = 4 := pad_length (by rw [List.length_take]; omega)
      split at h
      · split at h
        · cases h
        · rename_i b hb
          injection h with h
          subst h
          have := bodyOf_wf hb
          exact ⟨hp, this.1, this.2.1⟩
      · split at h
        · cases h
        · injection h with h
          subst h
          exact ⟨hp, rfl, rfl⟩

theorem candW_wf {ws : List (List UInt8)} {x : Step} (h : candW ws = some x) : Wf x := by
  unfold candW at h
  split at h
  · cases h
  · split at h
    · cases h
    · split at h
      · split at h
        · cases h
        · exact candN_wf h
      · exact candN_wf h

theorem pad_zeros {l : List Int} {m : Nat} (hl : l.length = 4) (hm : m ≤ 4) (h : (l.drop m).all (fun x => decide (x = 0)) = true) : pad (l.take m) = l := by
  conv => rhs; rw [← List.take_append_drop m l]
  unfold pad
  congr 1
  refine zeros_eq ?_ h ?_
  · rw [List.all_eq_true]
    intro x hx
    rw [(List.mem_replicate.1 hx).2]
    rfl
  · rw [List.length_replicate, List.length_take, List.length_drop]
    omega

/-- A right step's line is read as it. -/
theorem candW_line {x : Step} (hw : Wf x) (hr : right x = true) : candW (splitB (line x)) = some x := by
  obtain ⟨w, m, hs, h1, h2, h3⟩ := right_shape hr
  have hk := shape_mem hs
  have hko := kindOf_of hs
  have hmo : manyOf x.kind = m := by unfold manyOf; rw [hs]
  have hm4 : m ≤ 4 := shapes_many _ hk.1
  have hnl := hw.n
  have hsm : ((x.n.take m)).all small = true := by
    rw [List.all_eq_true] at h1 ⊢
    exact fun y hy => h1 y (List.mem_of_mem_take hy)
  have htl : (x.n.take m).length = m := by rw [List.length_take]; omega
  rw [split_line hr hs]
  unfold words candW
  simp only
  rw [hko, if_neg (by omega)]
  by_cases hp : x.kind = 1
  · rw [if_pos hp, if_pos hp]
    simp only [List.cons_append, List.nil_append]
    rw [if_pos hp] at h3
    rw [Bool.and_eq_true] at h3
    have hnb : (numbers x.body).all small = true := by
      have := h3.2
      unfold fits at this
      rw [Bool.and_eq_true] at this
      exact this.2
    have hna : (nums x m).all small = true := by
      unfold nums
      rw [if_pos hp, List.all_append, hsm, hnb]; rfl
    have hmo1 : manyOf 1 = m := by rw [← hp]; exact hmo
    unfold candN
    rw [numsOf_itoa hna]
    simp only
    have e1 : (nums x m).drop m = numbers x.body := by
      unfold nums
      rw [if_pos hp, List.drop_append_of_le_length (by omega), List.drop_of_length_le (by omega), List.nil_append]
    have e2 : (nums x m).take m = x.n.take m := by
      unfold nums
      rw [if_pos hp, List.take_append_of_le_length (by omega), List.take_of_length_le (by omega)]
    have e3 : ¬ (nums x m).length < m := by
      unfold nums
      rw [List.length_append, htl]; omega
    rw [hmo1, if_neg e3, if_pos trivial, e1, bodyOf_numbers h3.2 hw.p hw.t, e2, pad_zeros hnl hm4 h2]
    simp only
    obtain ⟨k, nm, n, b⟩ := x
    simp only at hp
    rw [hp]
  · rw [if_neg hp, if_neg hp]
    simp only [List.nil_append]
    rw [if_neg hp, Bool.and_eq_true, decide_eq_true_iff] at h3
    have hnu : nums x m = x.n.take m := by
      unfold nums
      rw [if_neg hp, List.append_nil]
    unfold candN
    rw [hnu, numsOf_itoa hsm]
    simp only
    rw [hmo, htl, if_neg (by omega), if_neg hp, if_neg (by omega), List.take_of_length_le (by omega : (x.n.take m).length ≤ m), pad_zeros hnl hm4 h2]
    obtain ⟨k, nm, n, b⟩ := x
    simp only at h3
    have eb : emptyB = b := empty_eq (by rfl) h3.2 rfl hw.p rfl hw.t
    rw [eb, h3.1]

/-- What a line is read as: the candidate, if it is right and that is its line. -/
theorem readOf_cand (s : List UInt8) : readOf s = match candW (splitB s) with
    | none => none
    | some x => if right x = true ∧ line x = s then some x else none := by
  cases hr : readOf s with
  | some x =>
    obtain ⟨hw, hx, hl⟩ := readOf_some hr
    have := candW_line hw hx
    rw [hl] at this
    rw [this]
    simp only
    rw [if_pos ⟨hx, hl⟩]
  | none =>
    cases hc : candW (splitB s) with
    | none => rfl
    | some x =>
      simp only
      rw [if_neg]
      rintro ⟨h1, h2⟩
      exact readOf_none hr (candW_wf hc) h1 h2

end Go.Proofs.YtjcffbhgjmaicaaDoor.Script
