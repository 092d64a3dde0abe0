/-
  Plain law: layer 55 (script), the document's answer: what Read reads a line as.
-/
import Derived.Test.YtjcffbhgjmaicaaDoorScrReadP
import Derived.Test.YtjcffbhgjmaicaaDoorScrRefB
namespace Go.Proofs.YtjcffbhgjmaicaaDoor.Script
open Go.Lib

theorem valR_val : ∀ (l : List UInt8) (acc : Nat), (∀ c ∈ l, 48 ≤ c.toNat ∧ c.toNat ≤ 57) → val acc l ≤ 1000000000 → valR acc l = some (val acc l)
  | [], acc, _, _ => rfl
  | c :: r, acc, h, hv => by
    have hc := h c (by simp)
    have e : val acc (c :: r) = val (acc * 10 + (c.toNat - 48)) r := rfl
    have h0 := val_ge (c :: r) acc
    rw [e] at hv ⊢ h0
    unfold valR
    rw [if_neg (by omega), Nat.mul_comm 10 acc]
    exact valR_val r _ (fun d hd => h d (by simp [hd])) hv

theorem valR_digits {u : Nat} (hu : u ≤ 1000000000) : valR 0 (decDigits u) = some u := by
  have hs : val 0 (decDigits u) = u := spell_digits u
  rw [valR_val _ _ (decDigits_digit u) (by omega), hs]

theorem numR_itoa {n : Int} (h : small n = true) : numR (itoa n) = some n := by
  unfold small at h
  simp only [Bool.and_eq_true, decide_eq_true_iff] at h
  unfold numR
  by_cases hn : n < 0
  · have e : itoa n = 45 :: decDigits n.natAbs := by unfold itoa; rw [if_pos hn]
    have e1 : Go.Proofs.YtjcffbhgjmaicaaDoor.bodyR (itoa n) = decDigits n.natAbs := by rw [e]; rfl
    have e2 : ∀ u, signR (itoa n) u = -(u : Int) := fun u => by rw [e]; rfl
    rw [e1, valR_digits (by omega)]
    simp only
    rw [e2, show -((n.natAbs : Nat) : Int) = n by omega, if_pos ⟨by rw [e]; simp, rfl⟩]
  · have e : itoa n = decDigits n.toNat := by unfold itoa; rw [if_neg hn]
    have hh : (itoa n).head? ≠ some 45 := by
      rw [e]
      rcases hd : decDigits n.toNat with _ | ⟨c, r⟩
      · simp
      · have hc := decDigits_digit n.toNat c (by rw [hd]; simp)
        intro hcc
        simp only [List.head?_cons, Option.some.injEq] at hcc
        rw [hcc] at hc
        exact absurd hc.1 (by decide)
    have e1 : Go.Proofs.YtjcffbhgjmaicaaDoor.bodyR (itoa n) = itoa n := by unfold Go.Proofs.YtjcffbhgjmaicaaDoor.bodyR; rw [if_neg hh]
    have e2 : ∀ u, signR (itoa n) u = (u : Int) := fun u => by unfold signR; rw [if_neg hh]
    have e3 : valR 0 (itoa n) = some n.toNat := by rw [e]; exact valR_digits (by omega)
    rw [e1, e3]
    simp only
    rw [e2, show ((n.toNat : Nat) : Int) = n by omega, if_pos ⟨by rw [e]; exact decDigits_ne _, rfl⟩]

theorem numR_small {w : List UInt8} {n : Int} (h : numR w = some n) : -10000000009 ≤ n ∧ n ≤ 10000000009 := by
  unfold numR at h
  split at h
  · cases h
  · rename_i u hu
    split at h
    · injection h with h
      have := valR_le _ _ _ (by omega) hu
      subst h
      unfold signR
      split <;> omega
    · cases h

def numsR : List (List UInt8) → Option (List Int)
  | [] => some []
  | w :: ws => match numR w, numsR ws with
    | some v, some l => some (v :: l)
    | _, _ => none

theorem numsR_append (a b : List (List UInt8)) : numsR (a ++ b) = match numsR a, numsR b with
    | some x, some y => some (x ++ y)
    | _, _ => none := by
  induction a with
  | nil => simp only [List.nil_append, numsR]; cases numsR b <;> rfl
  | cons w a ih =>
    simp only [List.cons_append, numsR, ih]
    cases numR w <;> cases numsR a <;> cases numsR b <;> rfl

theorem numsR_length : ∀ {a : List (List UInt8)} {l : List Int}, numsR a = some l → l.length = a.length
  | [], l, h => by simp [numsR] at h; subst h; rfl
  | w :: a, l, h => by
    simp only [numsR] at h
    cases hw : numR w with
    | none => rw [hw] at h; cases h
    | some v =>
      cases ha : numsR a with
      | none => rw [hw, ha] at h; cases h
      | some m =>
        rw [hw, ha] at h
        injection h with h
        subst h
        rw [List.length_cons, List.length_cons, numsR_length ha]

theorem numsR_itoa : ∀ {l : List Int}, l.all small = true → numsR (l.map itoa) = some l
  | [], _ => rfl
  | n :: l, h => by
    rw [List.all_cons, Bool.and_eq_true] at h
    simp only [List.map_cons, numsR, numR_itoa h.1, numsR_itoa h.2]


/-- The body that numbers tell, for the document. -/
def bodyD : List Int → Option Body
  | v :: t :: k :: r => if 0 ≤ v ∧ 0 ≤ t ∧ 0 ≤ k ∧ v ≤ 4096 ∧ t ≤ 8192 ∧ (r.length : Int) = 3 * v + 3 * t + k then some (bodyTold v t r) else none
  | _ => none

theorem bodyD_short {l : List Int} (h : l.length < 3) : bodyD l = none := by
  match l, h with
  | [], _ => rfl
  | [_], _ => rfl
  | [_, _], _ => rfl
  | _ :: _ :: _ :: _, h => simp at h; omega

theorem bodyD_numbers {b : Body} (hf : fits b = true) (hp : b.p.length = 3 * b.pn) (ht : b.t.length = 3 * b.tn) : bodyD (numbers b) = some b := by
  have h := bodyOf_numbers hf hp ht
  unfold numbers bodyOf at h
  unfold numbers bodyD
  simp only at h ⊢
  split at h
  · rename_i hh
    have := headOk_true hh
    rw [if_pos (by omega)]
    exact h
  · cases h

theorem bodyD_wf {l : List Int} {b : Body} (h : bodyD l = some b) : b.p.length = 3 * b.pn ∧ b.t.length = 3 * b.tn ∧ b.pn ≤ 4096 ∧ b.tn ≤ 8192 := by
  unfold bodyD at h
  split at h
  · rename_i v t k r
    split at h
    · injection h with h
      subst h
      unfold bodyTold
      simp only [List.length_take, List.length_drop]
      omega
    · cases h
  · cases h

/-- The step that a kind, a name and numbers make, before it is looked at. -/
def candNR (k : Int) (nm : List UInt8) (ws : List (List UInt8)) : Option Step :=
  match numsR ws with
  | none => none
  | some l =>
    if l.length < manyOf k then none
    else if k = 1 then (match bodyD (l.drop (manyOf k)) with | none => none | some b => some { kind := k, name := nm, n := pad (l.take (manyOf k)), body := b })
    else if manyOf k < l.length then none
    else some { kind := k, name := nm, n := pad (l.take (manyOf k)), body := emptyB }

def candR : List (List UInt8) → Option Step
  | [] => none
  | w :: ws =>
    if kindOf w = 0 then none
    else if kindOf w = 1 then (match ws with | [] => none | nm :: ws' => candNR 1 nm ws')
    else candNR (kindOf w) [] ws

theorem candNR_wf {k : Int} {nm : List UInt8} {ws : List (List UInt8)} {x : Step} (h : candNR k nm ws = some x) : Wf x := by
  have hm4 : manyOf k ≤ 4 := by
    unfold manyOf
    split
    · rename_i x hx
      exact shapes_many _ (shape_mem hx).1
    · omega
  unfold candNR at h
  split at h
  · cases h
  · rename_i l _
    split at h
    · cases h
    · have hp : (pad (l.take (manyOf k))).length = 4 := pad_length (by rw [List.length_take]; omega)
      split at h
      · split at h
        · cases h
        · rename_i b hb
          injection h with h
          subst h
          have := bodyD_wf hb
          exact ⟨hp, this.1, this.2.1⟩
      · split at h
        · cases h
        · injection h with h
          subst h
          exact ⟨hp, rfl, rfl⟩

theorem candR_wf {ws : List (List UInt8)} {x : Step} (h : candR ws = some x) : Wf x := by
  unfold candR at h
  split at h
  · cases h
  · split at h
    · cases h
    · split at h
      · split at h
        · cases h
        · exact candNR_wf h
      · exact candNR_wf h

/-- A right step's line is read as it. -/
theorem candR_line {x : Step} (hw : Wf x) (hr : right x = true) : candR (splitB (line x)) = some x := by
  obtain ⟨w, m, hs, h1, h2, h3⟩ := right_shape hr
  have hk := shape_mem hs
  have hko := kindOf_of hs
  have hmo : manyOf x.kind = m := by unfold manyOf; rw [hs]
  have hm4 : m ≤ 4 := shapes_many _ hk.1
  have hnl := hw.n
  have hsm : ((x.n.take m)).all small = true := by
    rw [List.all_eq_true] at h1 ⊢
    exact fun y hy => h1 y (List.mem_of_mem_take hy)
  have htl : (x.n.take m).length = m := by rw [List.length_take]; omega
  rw [split_line hr hs]
  unfold words candR
  simp only
  rw [hko, if_neg (by omega)]
  by_cases hp : x.kind = 1
  · rw [if_pos hp, if_pos hp]
    simp only [List.cons_append, List.nil_append]
    rw [if_pos hp] at h3
    rw [Bool.and_eq_true] at h3
    have hnb : (numbers x.body).all small = true := by
      have := h3.2
      unfold fits at this
      rw [Bool.and_eq_true] at this
      exact this.2
    have hna : (nums x m).all small = true := by
      unfold nums
      rw [if_pos hp, List.all_append, hsm, hnb]; rfl
    have hmo1 : manyOf 1 = m := by rw [← hp]; exact hmo
    unfold candNR
    rw [numsR_itoa hna]
    simp only
    have e1 : (nums x m).drop m = numbers x.body := by
      unfold nums
      rw [if_pos hp, List.drop_append_of_le_length (by omega), List.drop_of_length_le (by omega), List.nil_append]
    have e2 : (nums x m).take m = x.n.take m := by
      unfold nums
      rw [if_pos hp, List.take_append_of_le_length (by omega), List.take_of_length_le (by omega)]
    have e3 : ¬ (nums x m).length < m := by
      unfold nums
      rw [List.length_append, htl]; omega
    rw [hmo1, if_neg e3, if_pos trivial, e1, bodyD_numbers h3.2 hw.p hw.t, e2, pad_zeros hnl hm4 h2]
    simp only
    obtain ⟨k, nm, n, b⟩ := x
    simp only at hp
    rw [hp]
  · rw [if_neg hp, if_neg hp]
    simp only [List.nil_append]
    rw [if_neg hp, Bool.and_eq_true, decide_eq_true_iff] at h3
    have hnu : nums x m = x.n.take m := by
      unfold nums
      rw [if_neg hp, List.append_nil]
    unfold candNR
    rw [hnu, numsR_itoa hsm]
    simp only
    rw [hmo, htl, if_neg (by omega), if_neg hp, if_neg (by omega), List.take_of_length_le (by omega : (x.n.take m).length ≤ m), pad_zeros hnl hm4 h2]
    obtain ⟨k, nm, n, b⟩ := x
    simp only at h3
    have eb : emptyB = b := empty_eq (by rfl) h3.2 rfl hw.p rfl hw.t
    rw [eb, h3.1]

/-- What a line is read as: the candidate, if it is right and that is its line. -/
theorem readOf_candR (s : List UInt8) : readOf s = match candR (splitB s) with
    | none => none
    | some x => if right x = true ∧ line x = s then some x else none := by
  cases hr : readOf s with
  | some x =>
    obtain ⟨hw, hx, hl⟩ := readOf_some hr
    have := candR_line hw hx
    rw [hl] at this
    rw [this]
    simp only
    rw [if_pos ⟨hx, hl⟩]
  | none =>
    cases hc : candR (splitB s) with
    | none => rfl
    | some x =>
      simp only
      rw [if_neg]
      rintro ⟨h1, h2⟩
      exact readOf_none hr (candR_wf hc) h1 h2


end Go.Proofs.YtjcffbhgjmaicaaDoor.Script
