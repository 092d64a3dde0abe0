/-
  Plain law: bits within 32 in a row that are turned are told by the sum.
-/
import Derived.Test.YtjnfnocmjpboiaaCrcMath
namespace Go.Proofs.Ytjnfnocmjpboiaa.CrcMath

/-- Whether two texts part at a bit. -/
def dbit (l m : List Nat) (p : Nat) : Bool := (l.getD (p / 8) 0 ^^^ m.getD (p / 8) 0) / 2 ^ (p % 8) % 2 == 1

theorem dbit_test (l m : List Nat) (p : Nat) : dbit l m p = (l.getD (p / 8) 0 ^^^ m.getD (p / 8) 0).testBit (p % 8) := by
  unfold dbit
  rw [Nat.testBit_eq_decide_div_mod_eq]
  generalize (l.getD (p / 8) 0 ^^^ m.getD (p / 8) 0) / 2 ^ (p % 8) % 2 = x
  by_cases h : x = 1 <;> simp [h]

theorem dbit_same (l : List Nat) (p : Nat) : dbit l l p = false := by
  rw [dbit_test, Nat.xor_self, Nat.zero_testBit]

theorem bits_at : ∀ (l : List Nat) (p : Nat), p < 8 * l.length → (l.flatMap bitsOf)[p]? = some ((l.getD (p / 8) 0).testBit (p % 8)) := by
  intro l
  induction l with
  | nil => intro p hp; simp at hp
  | cons c l ih =>
    intro p hp
    rw [List.flatMap_cons]
    have hlen : (bitsOf c).length = 8 := rfl
    rcases Nat.lt_or_ge p 8 with h | h
    · rw [List.getElem?_append_left (by omega)]
      have e1 : p / 8 = 0 := by omega
      have e2 : p % 8 = p := by omega
      rw [e1, e2]
      match p, h with
      | 0, _ | 1, _ | 2, _ | 3, _ | 4, _ | 5, _ | 6, _ | 7, _ => rfl
    · rw [List.getElem?_append_right (by omega), hlen, ih (p - 8) (by simp at hp; omega)]
      have e1 : p / 8 = (p - 8) / 8 + 1 := by omega
      have e2 : (p - 8) % 8 = p % 8 := by omega
      rw [e1, e2]; rfl

theorem bits_len (l : List Nat) : (l.flatMap bitsOf).length = 8 * l.length := by
  induction l with
  | nil => rfl
  | cons c l ih => rw [List.flatMap_cons, List.length_append, ih]; simp [bitsOf]; omega

theorem getD_zip {l m : List Nat} (h : m.length = l.length) (i : Nat) : (List.zipWith (· ^^^ ·) l m).getD i 0 = l.getD i 0 ^^^ m.getD i 0 := by
  simp only [List.getD_eq_getElem?_getD, List.getElem?_zipWith]
  rcases Nat.lt_or_ge i l.length with hi | hi
  · rw [List.getElem?_eq_getElem hi, List.getElem?_eq_getElem (by omega)]; rfl
  · rw [List.getElem?_eq_none hi, List.getElem?_eq_none (by omega)]; rfl

/-- Two texts that part only at bits from 'f' to 'f + 31' have one sum just if they part nowhere. -/
theorem burst_told {l m : List Nat} (hl : ∀ c ∈ l, c < 256) (hm : ∀ c ∈ m, c < 256) (hlen : m.length = l.length) (f : Nat)
    (hout : ∀ p, p < 8 * l.length → dbit l m p = true → f ≤ p ∧ p < f + 32) :
    sum l = sum m ↔ ∀ p, p < 8 * l.length → dbit l m p = false := by
  have hz : ∀ c ∈ List.zipWith (· ^^^ ·) l m, c < 256 := by
    intro c hc
    obtain ⟨i, hi, rfl⟩ := List.getElem_of_mem hc
    rw [List.getElem_zipWith]
    simp at hi
    exact Nat.xor_lt_two_pow (n := 8) (hl _ (List.getElem_mem _)) (hm _ (List.getElem_mem _))
  have hzl : (List.zipWith (· ^^^ ·) l m).length = l.length := by rw [List.length_zipWith]; omega
  rw [sum_inj_reg hl hm]
  have h1 := reg_xor l m 4294967295 4294967295 hlen.symm
  rw [Nat.xor_self, reg_bits _ 0 hz] at h1
  have hB : ∀ p, p < 8 * l.length → ((List.zipWith (· ^^^ ·) l m).flatMap bitsOf)[p]? = some (dbit l m p) := by
    intro p hp
    rw [bits_at _ p (by rw [hzl]; exact hp), getD_zip hlen, dbit_test]
  have hBl := bits_len (List.zipWith (· ^^^ ·) l m)
  rw [hzl] at hBl
  generalize (List.zipWith (· ^^^ ·) l m).flatMap bitsOf = B at *
  have hsplit : B = B.take f ++ (B.drop f).take 32 ++ B.drop (f + 32) := by
    rw [List.append_assoc, ← List.drop_drop, List.take_append_drop, List.take_append_drop]
  have hmem : ∀ (b : Bool), b ∈ B → ∃ p, p < 8 * l.length ∧ b = dbit l m p := by
    intro b hb
    obtain ⟨p, hp, rfl⟩ := List.getElem_of_mem hb
    refine ⟨p, by omega, ?_⟩
    have := hB p (by omega)
    rw [List.getElem?_eq_getElem hp] at this
    injection this
  have hp1 : ∀ b ∈ B.take f, b = false := by
    intro b hb
    obtain ⟨i, hi, rfl⟩ := List.getElem_of_mem hb
    rw [List.getElem_take]
    simp at hi
    have h2 := hB i (by omega)
    rw [List.getElem?_eq_getElem (by omega)] at h2
    injection h2 with h2
    rw [h2]
    cases hd : dbit l m i
    · rfl
    · have := hout i (by omega) hd; omega
  have hp3 : ∀ b ∈ B.drop (f + 32), b = false := by
    intro b hb
    obtain ⟨i, hi, rfl⟩ := List.getElem_of_mem hb
    rw [List.getElem_drop]
    simp at hi
    have h2 := hB (f + 32 + i) (by omega)
    rw [List.getElem?_eq_getElem (by omega)] at h2
    injection h2 with h2
    rw [h2]
    cases hd : dbit l m (f + 32 + i)
    · rfl
    · have := hout _ (by omega) hd; omega
  have hmain := regB_burst (q := (B.drop f).take 32) hp1 (by simp; omega) hp3
  rw [← hsplit] at hmain
  constructor
  · intro e p hp
    rw [e, Nat.xor_self] at h1
    have hq := hmain.1 h1
    cases hd : dbit l m p
    · rfl
    · obtain ⟨k1, k2⟩ := hout p hp hd
      have h2 := hB p hp
      have : (dbit l m p) ∈ (B.drop f).take 32 := by
        refine List.mem_of_getElem? (i := p - f) ?_
        rw [List.getElem?_take, if_pos (by omega), List.getElem?_drop, show f + (p - f) = p from by omega]
        exact h2
      rw [← hd]; exact hq _ this
  · intro e
    have hq : regB 0 B = 0 := by
      apply hmain.2
      intro b hb
      obtain ⟨p, hp, rfl⟩ := hmem b (List.mem_of_mem_drop (List.mem_of_mem_take hb))
      exact e p hp
    rw [hq] at h1
    exact xor_eq_zero h1.symm

/-- The text after the first k rounds of the law's loop. -/
def turned (l : List Nat) (f burst : Nat) : Nat → List Nat
  | 0 => l
  | k + 1 =>
    if burst / 2 ^ k % 2 = 1 ∧ f + k < 8 * l.length then
      (turned l f burst k).set ((f + k) / 8) ((turned l f burst k).getD ((f + k) / 8) 0 ^^^ 2 ^ ((f + k) % 8))
    else turned l f burst k

theorem turned_len (l : List Nat) (f burst : Nat) : ∀ k, (turned l f burst k).length = l.length := by
  intro k
  induction k with
  | zero => rfl
  | succ k ih =>
    unfold turned
    split
    · rw [List.length_set, ih]
    · exact ih

theorem pow_lt_256 {r : Nat} (h : r < 8) : 2 ^ r < 256 := Nat.pow_lt_pow_of_lt (by decide) h

theorem getD_lt {l : List Nat} (hl : ∀ c ∈ l, c < 256) (i : Nat) : l.getD i 0 < 256 := by
  rw [List.getD_eq_getElem?_getD]
  rcases Nat.lt_or_ge i l.length with hi | hi
  · rw [List.getElem?_eq_getElem hi]; exact hl _ (List.getElem_mem _)
  · rw [List.getElem?_eq_none hi]; decide

theorem turned_lt {l : List Nat} (hl : ∀ c ∈ l, c < 256) (f burst : Nat) : ∀ k, ∀ c ∈ turned l f burst k, c < 256 := by
  intro k
  induction k with
  | zero => exact hl
  | succ k ih =>
    unfold turned
    split
    · intro c hc
      rcases List.mem_or_eq_of_mem_set hc with hc | rfl
      · exact ih c hc
      · exact Nat.xor_lt_two_pow (n := 8) (getD_lt ih _) (pow_lt_256 (by omega))
    · exact ih

theorem turned_bit (l : List Nat) (f burst : Nat) : ∀ k p, p < 8 * l.length → dbit l (turned l f burst k) p = (decide (f ≤ p) && decide (p < f + k) && (burst / 2 ^ (p - f) % 2 == 1)) := by
  intro k
  induction k with
  | zero =>
    intro p hp
    rw [show turned l f burst 0 = l from rfl, dbit_same]
    by_cases h : f ≤ p
    · have : ¬ p < f := by omega
      simp [this]
    · simp [h]
  | succ k ih =>
    intro p hp
    have ih := ih p hp
    unfold turned
    split
    · rename_i hc
      obtain ⟨hc1, hc2⟩ := hc
      rw [dbit_test] at ih ⊢
      have hlen := turned_len l f burst k
      generalize turned l f burst k = m at *
      by_cases hq : p / 8 = (f + k) / 8
      · have hget : (m.set ((f + k) / 8) (m.getD ((f + k) / 8) 0 ^^^ 2 ^ ((f + k) % 8))).getD (p / 8) 0 = m.getD (p / 8) 0 ^^^ 2 ^ ((f + k) % 8) := by
          rw [hq, List.getD_eq_getElem?_getD, List.getElem?_set_self (by omega)]; rfl
        rw [hget, ← Nat.xor_assoc, Nat.testBit_xor, ih]
        by_cases hpk : p = f + k
        · subst hpk
          rw [Nat.testBit_two_pow_self]
          have e : f + k - f = k := by omega
          simp [e, hc1]
        · have hne : (f + k) % 8 ≠ p % 8 := by omega
          rw [Nat.testBit_two_pow_of_ne hne]
          by_cases h1 : f ≤ p
          · have : (p < f + (k + 1)) = (p < f + k) := by apply propext; omega
            simp [this]
          · simp [h1]
      · have hget : (m.set ((f + k) / 8) (m.getD ((f + k) / 8) 0 ^^^ 2 ^ ((f + k) % 8))).getD (p / 8) 0 = m.getD (p / 8) 0 := by
          rw [List.getD_eq_getElem?_getD, List.getElem?_set_ne (by omega), ← List.getD_eq_getElem?_getD]
        rw [hget, ih]
        have : (p < f + (k + 1)) = (p < f + k) := by apply propext; omega
        simp [this]
    · rename_i hc
      rw [ih]
      by_cases hpk : p = f + k
      · subst hpk
        have e : f + k - f = k := by omega
        have h1 : ¬ burst / 2 ^ k % 2 = 1 := fun h => hc ⟨h, hp⟩
        simp [e, h1]
      · have : (p < f + (k + 1)) = (p < f + k) := by apply propext; omega
        simp [this]

end Go.Proofs.Ytjnfnocmjpboiaa.CrcMath
