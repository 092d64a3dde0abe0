/-
  Plain law: a box's bytes.
-/
import Derived.Test.YtjnfnocmjpboiaaCrcBits
namespace Go.Proofs.Ytjnfnocmjpboiaa.BoxMath
open CrcMath

/-- A number's bytes, the highest first. -/
def be : Nat → Nat → List Nat
  | 0, _ => []
  | s + 1, n => n / 256 ^ s % 256 :: be s n

/-- A sum's bytes, the lowest first. -/
def le (s : Nat) : List Nat := [s % 256, s / 256 % 256, s / 65536 % 256, s / 16777216]

/-- Bytes with their sum behind them. -/
def summed (l : List Nat) : List Nat := l ++ le (sum l)

/-- The number that bytes tell. -/
def told (l : List Nat) : Nat := l.foldl (fun n c => n * 256 + c) 0

theorem be_len (s n : Nat) : (be s n).length = s := by
  induction s with
  | zero => rfl
  | succ s ih => simp [be, ih]

theorem be_lt (s n : Nat) : ∀ c ∈ be s n, c < 256 := by
  induction s with
  | zero => intro c hc; simp [be] at hc
  | succ s ih =>
    intro c hc
    rcases List.mem_cons.1 hc with rfl | hc
    · exact Nat.mod_lt _ (by decide)
    · exact ih c hc

theorem be_at : ∀ (s n j : Nat), j < s → (be s n)[j]? = some (n / 256 ^ (s - 1 - j) % 256) := by
  intro s
  induction s with
  | zero => intro n j h; omega
  | succ s ih =>
    intro n j h
    cases j with
    | zero => simp [be]
    | succ j =>
      simp only [be, List.getElem?_cons_succ]
      rw [ih n j (by omega), show s + 1 - 1 - (j + 1) = s - 1 - j from by omega]

theorem le_len (s : Nat) : (le s).length = 4 := rfl
theorem le_lt {s : Nat} (h : s < 4294967296) : ∀ c ∈ le s, c < 256 := by
  intro c hc
  simp [le] at hc
  omega
theorem le_sum_lt (l : List Nat) : ∀ c ∈ le (sum l), c < 256 := le_lt (sum_lt l)

theorem summed_len (l : List Nat) : (summed l).length = l.length + 4 := by simp [summed, le_len]
theorem summed_lt {l : List Nat} (h : ∀ c ∈ l, c < 256) : ∀ c ∈ summed l, c < 256 := by
  intro c hc
  rcases List.mem_append.1 hc with hc | hc
  · exact h c hc
  · exact le_sum_lt l c hc

theorem told_snoc (l : List Nat) (c : Nat) : told (l ++ [c]) = told l * 256 + c := by simp [told, List.foldl_append]
theorem told_lt {l : List Nat} (h : ∀ c ∈ l, c < 256) : told l < 256 ^ l.length := by
  suffices hh : ∀ (l : List Nat) (n k : Nat), (∀ c ∈ l, c < 256) → n < 256 ^ k → l.foldl (fun n c => n * 256 + c) n < 256 ^ (k + l.length) by
    have := hh l 0 0 h (by decide)
    simpa [told] using this
  intro l
  induction l with
  | nil => intro n k _ hn; simpa using hn
  | cons c l ih =>
    intro n k hl hn
    simp only [List.foldl_cons, List.length_cons]
    have := ih (n * 256 + c) (k + 1) (fun d hd => hl d (by simp [hd])) (by
      have := hl c (by simp)
      rw [Nat.pow_succ]; omega)
    rw [show k + (l.length + 1) = k + 1 + l.length from by omega]
    exact this

theorem told_be (s n : Nat) (h : n < 256 ^ s) : told (be s n) = n := by
  suffices hh : ∀ (s n m : Nat), (be s n).foldl (fun n c => n * 256 + c) m = m * 256 ^ s + n % 256 ^ s by
    have := hh s n 0
    rw [Nat.zero_mul, Nat.zero_add, Nat.mod_eq_of_lt h] at this
    exact this
  clear h
  intro s
  induction s with
  | zero => intro n m; simp [be]; omega
  | succ s ih =>
    intro n m
    simp only [be, List.foldl_cons]
    rw [ih]
    have e1 : n % 256 ^ (s + 1) = n / 256 ^ s % 256 * 256 ^ s + n % 256 ^ s := by
      rw [Nat.pow_succ, Nat.mod_mul, Nat.add_comm, Nat.mul_comm]
    rw [e1, Nat.add_mul, Nat.pow_succ, Nat.mul_assoc, Nat.mul_comm 256, Nat.add_assoc]

/-- Whether bytes end with the sum of those ahead. -/
def right (l : List Nat) : Bool := decide (4 ≤ l.length) && decide (summed (l.take (l.length - 4)) = l)

def letters : List Nat := [71, 89, 80, 83]
/-- Is it a fixed part? -/
def cntB (l : List Nat) : Bool := decide (l.length = 10) && decide (l.take 4 = letters) && right l
/-- How many chunks a fixed part tells. -/
def cntN (l : List Nat) : Nat := if cntB l then told ((l.drop 4).take 2) else 0

theorem cntN_lt {l : List Nat} (h : ∀ c ∈ l, c < 256) : cntN l < 65536 := by
  unfold cntN
  split
  · have h1 := told_lt (l := (l.drop 4).take 2) fun c hc => h c (List.mem_of_mem_drop (List.mem_of_mem_take hc))
    have h2 : ((l.drop 4).take 2).length ≤ 2 := by rw [List.length_take]; omega
    exact Nat.lt_of_lt_of_le h1 (Nat.pow_le_pow_right (by decide) h2)
  · decide

/-- The first head's number of chunks, and its table. -/
def n1 (l : List Nat) : Nat := cntN (l.take 10)
def table1 (l : List Nat) : List Nat := (l.drop 10).take (9 * n1 l + 4)
/-- Is there a first head? -/
def first1 (l : List Nat) : Bool := cntB (l.take 10) && decide (14 + 9 * n1 l ≤ l.length) && right (table1 l)

/-- The second head's number of chunks, and its table. -/
def n2 (l : List Nat) : Nat := cntN (l.drop (l.length - 10))
def table2 (l : List Nat) : List Nat := (l.drop (l.length - 10 - 9 * n2 l - 4)).take (9 * n2 l + 4)
/-- Is there a second head? -/
def second2 (l : List Nat) : Bool := cntB (l.drop (l.length - 10)) && decide (14 + 9 * n2 l ≤ l.length) && right (table2 l)

/-- The length that row i of a table tells. -/
def tellLen (t : List Nat) (i : Nat) : Nat := told ((t.drop (9 * i + 1)).take 4)
/-- All that the first k rows tell. -/
def lens (t : List Nat) : Nat → Nat
  | 0 => 0
  | k + 1 => lens t k + tellLen t k

theorem tellLen_lt {t : List Nat} (h : ∀ c ∈ t, c < 256) (i : Nat) : tellLen t i < 4294967296 := by
  have h1 := told_lt (l := (t.drop (9 * i + 1)).take 4) fun c hc => h c (List.mem_of_mem_drop (List.mem_of_mem_take hc))
  have h2 : ((t.drop (9 * i + 1)).take 4).length ≤ 4 := by rw [List.length_take]; omega
  exact Nat.lt_of_lt_of_le h1 (Nat.pow_le_pow_right (by decide) h2)
theorem lens_le {t : List Nat} (h : ∀ c ∈ t, c < 256) (k : Nat) : lens t k ≤ k * 4294967296 := by
  induction k with
  | zero => simp [lens]
  | succ k ih => have := tellLen_lt h k; simp only [lens]; omega

/-- The fixed part of n chunks. -/
def fixedOf (n : Nat) : List Nat := summed (letters ++ be 2 n)
/-- A chunk's row. -/
def rowOf (c : Nat × List Nat) : List Nat := c.1 :: (be 4 c.2.length ++ le (sum c.2))
def rowsOf (cs : List (Nat × List Nat)) : List Nat := cs.flatMap rowOf
/-- The table of chunks. -/
def tableOf (cs : List (Nat × List Nat)) : List Nat := summed (rowsOf cs)
/-- All data. -/
def dataOf (cs : List (Nat × List Nat)) : List Nat := cs.flatMap (·.2)
/-- The box. -/
def boxOf (cs : List (Nat × List Nat)) : List Nat :=
  fixedOf cs.length ++ (tableOf cs ++ ([0, 0, 0, 0] ++ (dataOf cs ++ ([0, 0, 0, 0] ++ (tableOf cs ++ fixedOf cs.length)))))

theorem rowOf_len (c : Nat × List Nat) : (rowOf c).length = 9 := by simp [rowOf, be_len, le_len]
theorem rowsOf_len (cs : List (Nat × List Nat)) : (rowsOf cs).length = 9 * cs.length := by
  induction cs with
  | nil => rfl
  | cons c cs ih => rw [rowsOf, List.flatMap_cons, List.length_append, rowOf_len]; unfold rowsOf at ih; rw [ih]; simp; omega
theorem tableOf_len (cs : List (Nat × List Nat)) : (tableOf cs).length = 9 * cs.length + 4 := by rw [tableOf, summed_len, rowsOf_len]
theorem fixedOf_len (n : Nat) : (fixedOf n).length = 10 := by rw [fixedOf, summed_len, List.length_append, be_len]; rfl

/-- A chunk as it was found. -/
structure Part where
  kind : Nat
  data : List Nat
  at_ : Int
  whole : Bool

/-- Where part i's data begin. -/
def startOf (t : List Nat) (at0 : Int) (i : Nat) : Int := at0 + (lens t i : Nat)
/-- Are part i's data there, with their sum? -/
def wholeB (b t : List Nat) (at0 : Int) (i : Nat) : Bool :=
  decide (0 ≤ startOf t at0 i) && decide (startOf t at0 i + (tellLen t i : Nat) ≤ (b.length : Int)) &&
    right ((b.drop (startOf t at0 i).toNat).take (tellLen t i) ++ (t.drop (9 * i + 5)).take 4)
def partOf (b t : List Nat) (at0 : Int) (i : Nat) : Part :=
  { kind := t.getD (9 * i) 0, data := if wholeB b t at0 i then (b.drop (startOf t at0 i).toNat).take (tellLen t i) else [], at_ := startOf t at0 i, whole := wholeB b t at0 i }
/-- The chunks that a table tells, from a place on. -/
def partsOf (b t : List Nat) (at0 : Int) (n : Nat) : List Part := (List.range n).map (partOf b t at0)

theorem partsOf_succ (b t : List Nat) (at0 : Int) (n : Nat) : partsOf b t at0 (n + 1) = partsOf b t at0 n ++ [partOf b t at0 n] := by
  unfold partsOf; rw [List.range_succ, List.map_append]; rfl
theorem partsOf_len (b t : List Nat) (at0 : Int) (n : Nat) : (partsOf b t at0 n).length = n := by simp [partsOf]

end Go.Proofs.Ytjnfnocmjpboiaa.BoxMath
