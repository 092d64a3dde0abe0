/-
  Plain law: the polynomial arithmetic of a reflected CRC-32 register, on natural numbers. No program in sight.
-/
namespace Go.Proofs.Ytjnfnocmjpboiaa.CrcMath

/-- One stp of the register. -/
def stp (x : Nat) : Nat := if x % 2 = 1 then (x / 2) ^^^ 3988292384 else x / 2

/-- n stps. -/
def stps : Nat → Nat → Nat
  | 0, x => x
  | n + 1, x => stps n (stp x)

/-- What eight stps make of a register. -/
def row (x : Nat) : Nat := stps 8 x

/-- One byte more. -/
def upd (x c : Nat) : Nat := row (x ^^^ c)

/-- The register after a text. -/
def reg (x : Nat) (l : List Nat) : Nat := l.foldl upd x

theorem xor_mod2 (a b : Nat) : (a ^^^ b) % 2 = (a + b) % 2 := by
  have h := Nat.testBit_xor a b 0
  simp only [Nat.testBit_zero] at h
  have ha : a % 2 = 0 ∨ a % 2 = 1 := by omega
  have hb : b % 2 = 0 ∨ b % 2 = 1 := by omega
  have hc : (a ^^^ b) % 2 = 0 ∨ (a ^^^ b) % 2 = 1 := by omega
  rcases ha with ha | ha <;> rcases hb with hb | hb <;> rcases hc with hc | hc <;> simp [ha, hb, hc] at h <;> omega

theorem xor_div2 (a b : Nat) : (a ^^^ b) / 2 = (a / 2) ^^^ (b / 2) := by
  apply Nat.eq_of_testBit_eq
  intro i
  simp [Nat.testBit_xor, ← Nat.testBit_add_one]

theorem stp_xor (a b : Nat) : stp (a ^^^ b) = stp a ^^^ stp b := by
  unfold stp
  have h1 := xor_mod2 a b
  have h2 := xor_div2 a b
  have ha : a % 2 = 0 ∨ a % 2 = 1 := by omega
  have hb : b % 2 = 0 ∨ b % 2 = 1 := by omega
  rcases ha with ha | ha <;> rcases hb with hb | hb
  · rw [if_neg (by omega), if_neg (by omega), if_neg (by omega), h2]
  · rw [if_pos (by omega), if_neg (by omega), if_pos (by omega), h2, Nat.xor_assoc]
  · rw [if_pos (by omega), if_pos (by omega), if_neg (by omega), h2, Nat.xor_assoc, Nat.xor_assoc, Nat.xor_comm 3988292384]
  · rw [if_neg (by omega), if_pos (by omega), if_pos (by omega), h2]
    rw [Nat.xor_assoc, Nat.xor_comm 3988292384, Nat.xor_assoc, Nat.xor_self, Nat.xor_zero]

theorem stp_zero : stp 0 = 0 := by decide

theorem stps_xor (n : Nat) : ∀ a b : Nat, stps n (a ^^^ b) = stps n a ^^^ stps n b := by
  induction n with
  | zero => intro a b; rfl
  | succ n ih => intro a b; simp only [stps]; rw [stp_xor, ih]

theorem stps_zero (n : Nat) : stps n 0 = 0 := by
  induction n with
  | zero => rfl
  | succ n ih => simp only [stps, stp_zero]; exact ih

theorem stps_add (m n : Nat) : ∀ x : Nat, stps (m + n) x = stps n (stps m x) := by
  induction m with
  | zero => intro x; simp [stps]
  | succ m ih => intro x; rw [Nat.succ_add]; simp only [stps]; exact ih _

theorem stp_lt {x : Nat} (h : x < 4294967296) : stp x < 4294967296 := by
  unfold stp
  split
  · exact Nat.xor_lt_two_pow (n := 32) (by omega) (by decide)
  · omega

theorem stps_lt (n : Nat) : ∀ {x : Nat}, x < 4294967296 → stps n x < 4294967296 := by
  induction n with
  | zero => intro x h; exact h
  | succ n ih => intro x h; exact ih (stp_lt h)

theorem row_lt {x : Nat} (h : x < 4294967296) : row x < 4294967296 := stps_lt 8 h
theorem row_xor (a b : Nat) : row (a ^^^ b) = row a ^^^ row b := stps_xor 8 a b

/-- A register that turns into nought was nought. -/
theorem stp_eq_zero {x : Nat} (h : x < 4294967296) (h0 : stp x = 0) : x = 0 := by
  unfold stp at h0
  split at h0
  · exfalso
    have hb : ((x / 2) ^^^ 3988292384).testBit 31 = true := by
      rw [Nat.testBit_xor]
      have h1 : (x / 2).testBit 31 = false := Nat.testBit_lt_two_pow (by omega)
      have h2 : (3988292384 : Nat).testBit 31 = true := by decide
      rw [h1, h2]; rfl
    rw [h0] at hb
    simp at hb
  · omega

theorem stps_eq_zero (n : Nat) : ∀ {x : Nat}, x < 4294967296 → stps n x = 0 → x = 0 := by
  induction n with
  | zero => intro x _ h; exact h
  | succ n ih => intro x hx h; exact stp_eq_zero hx (ih (stp_lt hx) h)

theorem xor_eq_zero {a b : Nat} (h : a ^^^ b = 0) : a = b := by
  have h1 : a ^^^ (a ^^^ b) = a ^^^ 0 := by rw [h]
  rw [← Nat.xor_assoc, Nat.xor_self, Nat.zero_xor, Nat.xor_zero] at h1
  exact h1.symm

theorem xor_cancel {x a b : Nat} (h : x ^^^ a = x ^^^ b) : a = b := by
  have h5 : x ^^^ (x ^^^ a) = x ^^^ (x ^^^ b) := by rw [h]
  rw [← Nat.xor_assoc, Nat.xor_self, Nat.zero_xor, ← Nat.xor_assoc, Nat.xor_self, Nat.zero_xor] at h5
  exact h5

theorem stps_inj (n : Nat) {x y : Nat} (hx : x < 4294967296) (hy : y < 4294967296) (h : stps n x = stps n y) : x = y := by
  apply xor_eq_zero
  refine stps_eq_zero n (Nat.xor_lt_two_pow (n := 32) hx hy) ?_
  rw [stps_xor, h, Nat.xor_self]

/-- Steps on a number whose lowest bits are nought only shift it. -/
theorem stps_mul (n : Nat) : ∀ x : Nat, stps n (x * 2 ^ n) = x := by
  induction n with
  | zero => intro x; simp [stps]
  | succ n ih =>
    intro x
    have h1 : stp (x * 2 ^ (n + 1)) = x * 2 ^ n := by
      unfold stp
      have : x * 2 ^ (n + 1) = 2 * (x * 2 ^ n) := by rw [Nat.pow_succ]; rw [← Nat.mul_assoc]; omega
      rw [if_neg (by omega)]; omega
    simp only [stps]; rw [h1, ih]

theorem split256 (x : Nat) : x = (x / 256 * 256) ^^^ (x % 256) := by
  apply Nat.eq_of_testBit_eq
  intro i
  rw [Nat.testBit_xor]
  have e1 : x / 256 * 256 = x / 2 ^ 8 * 2 ^ 8 := rfl
  have e2 : x % 256 = x % 2 ^ 8 := rfl
  rw [e1, e2, Nat.testBit_mul_two_pow, Nat.testBit_div_two_pow, Nat.testBit_mod_two_pow]
  by_cases h : i < 8
  · have : ¬ 8 ≤ i := by omega
    simp [h, this]
  · have : 8 ≤ i := by omega
    simp [h, this]

/-- The program's own way: by the lowest byte alone. -/
theorem upd_eq (x c : Nat) : (x / 256) ^^^ row ((x % 256) ^^^ c) = upd x c := by
  unfold upd
  rw [show row (x ^^^ c) = row ((x / 256 * 256) ^^^ ((x % 256) ^^^ c)) from by rw [← Nat.xor_assoc, ← split256]]
  rw [row_xor (x / 256 * 256)]
  have h : row (x / 256 * 256) = x / 256 := stps_mul 8 (x / 256)
  rw [h]

theorem upd_lt {x c : Nat} (hx : x < 4294967296) (hc : c < 256) : upd x c < 4294967296 :=
  row_lt (Nat.xor_lt_two_pow (n := 32) hx (by omega))

theorem reg_lt (l : List Nat) : ∀ {x : Nat}, x < 4294967296 → (∀ c ∈ l, c < 256) → reg x l < 4294967296 := by
  induction l with
  | nil => intro x hx _; exact hx
  | cons c l ih =>
    intro x hx hl
    exact ih (upd_lt hx (hl c (by simp))) fun d hd => hl d (by simp [hd])

theorem reg_append (x : Nat) (l m : List Nat) : reg x (l ++ m) = reg (reg x l) m := by simp [reg, List.foldl_append]
theorem reg_snoc (x : Nat) (l : List Nat) (c : Nat) : reg x (l ++ [c]) = upd (reg x l) c := by simp [reg, List.foldl_append]

/-- Two texts of one length, put together. -/
theorem reg_xor : ∀ (l m : List Nat) (x y : Nat), l.length = m.length → reg (x ^^^ y) (List.zipWith (· ^^^ ·) l m) = reg x l ^^^ reg y m := by
  intro l
  induction l with
  | nil => intro m x y h; cases m with
    | nil => rfl
    | cons _ _ => simp at h
  | cons c l ih => intro m x y h; cases m with
    | nil => simp at h
    | cons d m =>
      simp only [List.zipWith, reg, List.foldl]
      have e : upd (x ^^^ y) (c ^^^ d) = upd x c ^^^ upd y d := by
        unfold upd
        rw [← row_xor]
        congr 1
        rw [Nat.xor_assoc, Nat.xor_assoc, ← Nat.xor_assoc y, Nat.xor_comm y c, Nat.xor_assoc]
      rw [e]
      exact ih m _ _ (by simpa using h)

/-- The whole register, turned over. -/
def flip (x : Nat) : Nat := 4294967295 - x
def sum (l : List Nat) : Nat := flip (reg 4294967295 l)
def more (s : Nat) (l : List Nat) : Nat := flip (reg (flip s) l)

theorem flip_lt {x : Nat} (h : x < 4294967296) : flip x < 4294967296 := by unfold flip; omega
theorem flip_flip {x : Nat} (h : x < 4294967296) : flip (flip x) = x := by unfold flip; omega
theorem flip_inj {x y : Nat} (hx : x < 4294967296) (hy : y < 4294967296) (h : flip x = flip y) : x = y := by unfold flip at h; omega
theorem flip_xor {x : Nat} (h : x < 4294967296) : flip x = x ^^^ 4294967295 := by
  have h1 : x ^^^ 4294967295 < 4294967296 := Nat.xor_lt_two_pow (n := 32) h (by decide)
  have h2 : (4294967296 - (x + 1)) = x ^^^ 4294967295 := by
    apply Nat.eq_of_testBit_eq
    intro i
    rw [show (4294967296 : Nat) = 2 ^ 32 from rfl, Nat.testBit_two_pow_sub_succ (by omega), Nat.testBit_xor, show (4294967295 : Nat) = 2 ^ 32 - 1 from rfl, Nat.testBit_two_pow_sub_one]
    by_cases hi : i < 32
    · simp [hi]
    · have : x.testBit i = false := Nat.testBit_lt_two_pow (Nat.lt_of_lt_of_le h (by rw [show (4294967296 : Nat) = 2 ^ 32 from rfl]; exact Nat.pow_le_pow_right (by decide) (by omega)))
      simp [hi, this]
  unfold flip; omega

theorem sum_eq (l : List Nat) : more 0 l = sum l := rfl
theorem sum_lt (l : List Nat) : sum l < 4294967296 := by unfold sum flip; omega
theorem more_lt (s : Nat) (l : List Nat) : more s l < 4294967296 := by unfold more flip; omega
theorem more_sum {l : List Nat} (h : ∀ c ∈ l, c < 256) (m : List Nat) : more (sum l) m = sum (l ++ m) := by
  unfold more sum
  rw [flip_flip (reg_lt l (by decide) h), reg_append]
theorem more_more {l : List Nat} (h : ∀ c ∈ l, c < 256) {s : Nat} (hs : s < 4294967296) (m : List Nat) : more (more s l) m = more s (l ++ m) := by
  unfold more
  rw [flip_flip (reg_lt l (flip_lt hs) h), reg_append]
theorem more_nil {s : Nat} (hs : s < 4294967296) : more s [] = s := by
  unfold more; exact flip_flip hs
theorem sum_nil : sum [] = 0 := by decide

/-! ### Differences of two texts of one length -/

/-- Two registers that read the same bytes stay as far apart as stps make them. -/
theorem reg_same (l : List Nat) : ∀ x y : Nat, reg x l ^^^ reg y l = stps (8 * l.length) (x ^^^ y) := by
  induction l with
  | nil => intro x y; rfl
  | cons c l ih =>
    intro x y
    have e : upd x c ^^^ upd y c = stps 8 (x ^^^ y) := by
      unfold upd
      rw [← row_xor]
      have : (x ^^^ c) ^^^ (y ^^^ c) = x ^^^ y := by
        rw [Nat.xor_assoc, Nat.xor_comm c, Nat.xor_assoc, Nat.xor_self, Nat.xor_zero]
      rw [this]; rfl
    have h := ih (upd x c) (upd y c)
    rw [e, ← stps_add] at h
    have hl : 8 * (c :: l).length = 8 + 8 * l.length := by simp; omega
    rw [hl]
    exact h

theorem reg_same_inj (l : List Nat) {x y : Nat} (hx : x < 4294967296) (hy : y < 4294967296) (h : reg x l = reg y l) : x = y := by
  have e := reg_same l x y
  rw [h, Nat.xor_self] at e
  exact xor_eq_zero (stps_eq_zero _ (Nat.xor_lt_two_pow (n := 32) hx hy) e.symm)

theorem sum_inj_reg {l m : List Nat} (hl : ∀ c ∈ l, c < 256) (hm : ∀ c ∈ m, c < 256) : sum l = sum m ↔ reg 4294967295 l = reg 4294967295 m := by
  constructor
  · intro h; exact flip_inj (reg_lt l (by decide) hl) (reg_lt m (by decide) hm) h
  · intro h; unfold sum; rw [h]

/-! ### A sum behind its text -/
theorem upd_upd (x c d : Nat) : upd (upd x c) d = stps 16 (x ^^^ (c ^^^ d * 256)) := by
  unfold upd row
  have h : stps 8 (d * 256) = d := stps_mul 8 d
  have e : stps 16 (x ^^^ (c ^^^ d * 256)) = stps 8 (stps 8 ((x ^^^ c) ^^^ d * 256)) := by
    rw [← stps_add, Nat.xor_assoc]
  rw [e, stps_xor 8 (x ^^^ c), h]

theorem reg_four (x a b c d : Nat) : reg x [a, b, c, d] = stps 32 (x ^^^ ((a ^^^ b * 256) ^^^ (c ^^^ d * 256) * 65536)) := by
  show upd (upd (upd (upd x a) b) c) d = _
  rw [upd_upd x a b, upd_upd _ c d]
  have h : stps 16 ((c ^^^ d * 256) * 65536) = c ^^^ d * 256 := stps_mul 16 _
  have e : stps 32 (x ^^^ ((a ^^^ b * 256) ^^^ (c ^^^ d * 256) * 65536)) = stps 16 (stps 16 ((x ^^^ (a ^^^ b * 256)) ^^^ (c ^^^ d * 256) * 65536)) := by
    rw [← stps_add, Nat.xor_assoc x]
  rw [e, stps_xor 16 (x ^^^ (a ^^^ b * 256)), h]

theorem four_bytes (s : Nat) (h : s < 4294967296) : (s % 256 ^^^ (s / 256 % 256) * 256) ^^^ ((s / 65536 % 256) ^^^ (s / 16777216 % 256) * 256) * 65536 = s := by
  have e1 := split256 (s % 65536)
  have e2 := split256 (s / 65536)
  have k1 : s % 65536 / 256 = s / 256 % 256 := by omega
  have k2 : s % 65536 % 256 = s % 256 := by omega
  have k3 : s / 65536 / 256 = s / 16777216 % 256 := by omega
  rw [k1, k2] at e1
  rw [k3] at e2
  rw [Nat.xor_comm (s % 256), ← e1, Nat.xor_comm (s / 65536 % 256), ← e2]
  apply Nat.eq_of_testBit_eq
  intro i
  have f1 : s / 65536 * 65536 = s / 2 ^ 16 * 2 ^ 16 := rfl
  have f2 : s % 65536 = s % 2 ^ 16 := rfl
  rw [Nat.testBit_xor, f1, f2, Nat.testBit_mul_two_pow, Nat.testBit_div_two_pow, Nat.testBit_mod_two_pow]
  by_cases hi : i < 16
  · have : ¬ 16 ≤ i := by omega
    simp [hi, this]
  · have : 16 ≤ i := by omega
    simp [hi, this]

theorem rest_eq {s : Nat} (h : s < 4294967296) : more s [s % 256, s / 256 % 256, s / 65536 % 256, s / 16777216 % 256] = sum [0, 0, 0, 0] := by
  unfold more sum
  rw [reg_four, reg_four, four_bytes s h, flip_xor h]
  congr 2
  rw [Nat.xor_comm s, Nat.xor_assoc, Nat.xor_self]; rfl

/-! ### Noughts -/
def noughts : Nat → Nat → Nat
  | 0, x => x
  | n + 1, x => noughts n (row x)

theorem reg_noughts (n : Nat) : ∀ x : Nat, reg x (List.replicate n 0) = noughts n x := by
  induction n with
  | zero => intro x; rfl
  | succ n ih =>
    intro x
    have : reg x (List.replicate (n + 1) 0) = reg (upd x 0) (List.replicate n 0) := rfl
    rw [this, ih]
    unfold upd
    rw [Nat.xor_zero]; rfl

theorem noughts_eq (n : Nat) : ∀ x : Nat, noughts n x = stps (8 * n) x := by
  induction n with
  | zero => intro x; rfl
  | succ n ih =>
    intro x
    rw [show 8 * (n + 1) = 8 + 8 * n from by omega, stps_add]
    exact ih _

/-- No register of ones comes back within 255 bytes. -/
def apart : Nat → Nat → Bool
  | 0, _ => true
  | n + 1, x => (row x != 4294967295) && apart n (row x)

theorem apart_of (n : Nat) : ∀ x : Nat, apart n x = true → ∀ k, 1 ≤ k → k ≤ n → noughts k x ≠ 4294967295 := by
  induction n with
  | zero => intro x _ k h1 h2; omega
  | succ n ih =>
    intro x h k h1 h2
    simp only [apart, Bool.and_eq_true, bne_iff_ne] at h
    match k, h1 with
    | k + 1, _ =>
      by_cases hk : k = 0
      · subst hk; exact h.1
      · exact ih (row x) h.2 k (by omega) (by omega)

theorem ones_apart : apart 255 4294967295 = true := by decide +kernel

theorem noughts_add (m n x : Nat) : noughts (m + n) x = noughts n (noughts m x) := by
  rw [noughts_eq, noughts_eq, noughts_eq, ← stps_add]; congr 1; omega

theorem ahead_lt {n m : Nat} (h : n < m) (hm : m < 256) : sum (List.replicate n 0) ≠ sum (List.replicate m 0) := by
  intro e
  have z : ∀ k, ∀ c ∈ List.replicate k 0, c < 256 := by intro k c hc; have := List.eq_of_mem_replicate hc; omega
  rw [sum_inj_reg (z n) (z m), reg_noughts, reg_noughts] at e
  have e2 : noughts m 4294967295 = noughts n (noughts (m - n) 4294967295) := by
    rw [← noughts_add]; congr 1; omega
  rw [e2, noughts_eq n, noughts_eq n] at e
  have hlt : noughts (m - n) 4294967295 < 4294967296 := by rw [noughts_eq]; exact stps_lt _ (by decide)
  exact apart_of 255 _ ones_apart (m - n) (by omega) (by omega) (stps_inj _ (by decide) hlt e).symm

theorem ahead_iff {n m : Nat} (hn : n < 256) (hm : m < 256) : sum (List.replicate n 0) = sum (List.replicate m 0) ↔ n = m := by
  constructor
  · intro e
    rcases Nat.lt_trichotomy n m with h | h | h
    · exact absurd e (ahead_lt h hm)
    · exact h
    · exact absurd e.symm (ahead_lt h hn)
  · rintro rfl; rfl

theorem cons_lt {a : Nat} {m : List Nat} (ha : a < 256) (hm : ∀ c ∈ m, c < 256) : ∀ c ∈ a :: m, c < 256 := by
  intro c hc
  rcases List.mem_cons.1 hc with rfl | h
  · exact ha
  · exact hm c h
theorem mid_lt {l m : List Nat} {a : Nat} (hl : ∀ c ∈ l, c < 256) (ha : a < 256) (hm : ∀ c ∈ m, c < 256) : ∀ c ∈ l ++ a :: m, c < 256 := by
  intro c hc
  rcases List.mem_append.1 hc with h | h
  · exact hl c h
  · exact cons_lt ha hm c h

/-! ### One byte; two bytes that change places -/
theorem one_iff {l m : List Nat} {a b : Nat} (hl : ∀ c ∈ l, c < 256) (hm : ∀ c ∈ m, c < 256) (ha : a < 256) (hb : b < 256) :
    sum (l ++ a :: m) = sum (l ++ b :: m) ↔ a = b := by
  constructor
  · intro h
    have h1 : ∀ c ∈ l ++ a :: m, c < 256 := mid_lt hl ha hm
    have h2 : ∀ c ∈ l ++ b :: m, c < 256 := mid_lt hl hb hm
    rw [sum_inj_reg h1 h2, reg_append, reg_append] at h
    have hx : reg 4294967295 l < 4294967296 := reg_lt l (by decide) hl
    have h3 : upd (reg 4294967295 l) a = upd (reg 4294967295 l) b := reg_same_inj m (upd_lt hx ha) (upd_lt hx hb) h
    unfold upd row at h3
    have h4 := stps_inj 8 (Nat.xor_lt_two_pow (n := 32) hx (by omega)) (Nat.xor_lt_two_pow (n := 32) hx (by omega)) h3
    exact xor_cancel h4
  · rintro rfl; rfl

theorem swap_fact : (List.range 256).all (fun d => d == 0 || row d != d) = true := by decide +kernel

theorem swap_iff {l m : List Nat} {a b : Nat} (hl : ∀ c ∈ l, c < 256) (hm : ∀ c ∈ m, c < 256) (ha : a < 256) (hb : b < 256) :
    sum (l ++ b :: a :: m) = sum (l ++ a :: b :: m) ↔ a = b := by
  constructor
  · intro h
    have h1 : ∀ c ∈ l ++ b :: a :: m, c < 256 := mid_lt hl hb (cons_lt ha hm)
    have h2 : ∀ c ∈ l ++ a :: b :: m, c < 256 := mid_lt hl ha (cons_lt hb hm)
    rw [sum_inj_reg h1 h2, reg_append, reg_append] at h
    have hx : reg 4294967295 l < 4294967296 := reg_lt l (by decide) hl
    have h3 : upd (upd (reg 4294967295 l) b) a = upd (upd (reg 4294967295 l) a) b :=
      reg_same_inj m (upd_lt (upd_lt hx hb) ha) (upd_lt (upd_lt hx ha) hb) h
    rw [upd_upd, upd_upd] at h3
    have hr : ∀ c d, c < 256 → d < 256 → c ^^^ d * 256 < 4294967296 := fun c d hc hd => Nat.xor_lt_two_pow (n := 32) (by omega) (by omega)
    have h4 := stps_inj 16 (Nat.xor_lt_two_pow (n := 32) hx (hr b a hb ha)) (Nat.xor_lt_two_pow (n := 32) hx (hr a b ha hb)) h3
    have h5 := xor_cancel h4
    have h6 : (b ^^^ a * 256) % 256 = (a ^^^ b * 256) % 256 := by rw [h5]
    have h7 : ∀ c d : Nat, c < 256 → (c ^^^ d * 256) % 256 = c := by
      intro c d hc
      have : (c ^^^ d * 256) % 2 ^ 8 = (c % 2 ^ 8) ^^^ ((d * 256) % 2 ^ 8) := Nat.xor_mod_two_pow
      simp only [Nat.reducePow] at this
      rw [this, Nat.mul_mod_left, Nat.xor_zero, Nat.mod_eq_of_lt hc]
    rw [h7 b a hb, h7 a b ha] at h6
    exact h6.symm
  · rintro rfl; rfl

/-! ### Bursts: bit by bit -/
/-- What bits, the first one lowest, are as a number. -/
def num : List Bool → Nat
  | [] => 0
  | b :: r => b.toNat + 2 * num r

/-- The register after bits, one by one. -/
def regB (x : Nat) (l : List Bool) : Nat := l.foldl (fun x b => stp (x ^^^ b.toNat)) x

theorem regB_append (x : Nat) (l m : List Bool) : regB x (l ++ m) = regB (regB x l) m := by simp [regB, List.foldl_append]

theorem num_cons (b : Bool) (n : Nat) : b.toNat + 2 * n = b.toNat ^^^ 2 * n := by
  apply Nat.eq_of_testBit_eq
  intro i
  rw [Nat.testBit_xor]
  have e : 2 * n = n * 2 ^ 1 := by omega
  cases i with
  | zero => cases b <;> simp [Nat.testBit_zero] <;> omega
  | succ i =>
    rw [Nat.testBit_add_one, Nat.testBit_add_one, Nat.testBit_add_one]
    have h1 : (b.toNat + 2 * n) / 2 = n := by cases b <;> simp <;> omega
    have h2 : b.toNat / 2 = 0 := by cases b <;> simp
    have h3 : 2 * n / 2 = n := by omega
    rw [h1, h2, h3]; simp

theorem regB_num : ∀ (l : List Bool) (x : Nat), regB x l = stps l.length (x ^^^ num l) := by
  intro l
  induction l with
  | nil => intro x; simp [regB, num, stps]
  | cons b l ih =>
    intro x
    have e : regB x (b :: l) = regB (stp (x ^^^ b.toNat)) l := rfl
    rw [e, ih]
    show _ = stps l.length (stp (x ^^^ num (b :: l)))
    congr 1
    have h : stp (2 * num l) = num l := by
      unfold stp; rw [if_neg (by omega)]; omega
    show stp (x ^^^ b.toNat) ^^^ num l = stp (x ^^^ (b.toNat + 2 * num l))
    rw [num_cons, ← Nat.xor_assoc, stp_xor (x ^^^ b.toNat), h]

theorem num_lt (l : List Bool) : num l < 2 ^ l.length := by
  induction l with
  | nil => simp [num]
  | cons b l ih =>
    simp only [num, List.length_cons, Nat.pow_succ]
    cases b <;> simp <;> omega

theorem num_eq_zero : ∀ {l : List Bool}, num l = 0 → ∀ b ∈ l, b = false := by
  intro l
  induction l with
  | nil => intro _ b hb; simp at hb
  | cons c l ih =>
    intro h b hb
    simp only [num] at h
    simp at hb
    rcases hb with rfl | hb
    · cases b <;> simp at h ⊢
    · exact ih (by omega) b hb

/-- The eight bits of a byte. -/
def bitsOf (c : Nat) : List Bool := [c.testBit 0, c.testBit 1, c.testBit 2, c.testBit 3, c.testBit 4, c.testBit 5, c.testBit 6, c.testBit 7]

theorem num_bitsOf {c : Nat} (h : c < 256) : num (bitsOf c) = c := by
  simp only [bitsOf, num, Nat.testBit_eq_decide_div_mod_eq]
  have k : ∀ n : Nat, (decide (n % 2 = 1)).toNat = n % 2 := by
    intro n; have : n % 2 = 0 ∨ n % 2 = 1 := by omega
    rcases this with h | h <;> simp [h]
  simp only [k]
  omega

theorem upd_bits (x : Nat) {c : Nat} (h : c < 256) : upd x c = regB x (bitsOf c) := by
  rw [regB_num, num_bitsOf h]; rfl

theorem reg_bits : ∀ (l : List Nat) (x : Nat), (∀ c ∈ l, c < 256) → reg x l = regB x (l.flatMap bitsOf) := by
  intro l
  induction l with
  | nil => intro x _; rfl
  | cons c l ih =>
    intro x h
    rw [List.flatMap_cons, regB_append, ← upd_bits x (h c (by simp))]
    exact ih _ fun d hd => h d (by simp [hd])

theorem regB_noughts {l : List Bool} (h : ∀ b ∈ l, b = false) : regB 0 l = 0 := by
  rw [regB_num]
  have : num l = 0 := by
    induction l with
    | nil => rfl
    | cons b l ih => simp [num, h b (by simp), ih fun c hc => h c (by simp [hc])]
  rw [this, Nat.xor_self, stps_zero]

/-- Bits, all in 32 in a row: the register is nought just if they all are. -/
theorem regB_burst {p q r : List Bool} (hp : ∀ b ∈ p, b = false) (hq : q.length ≤ 32) (hr : ∀ b ∈ r, b = false) :
    regB 0 (p ++ q ++ r) = 0 ↔ ∀ b ∈ q, b = false := by
  have hlt : num q < 4294967296 := Nat.lt_of_lt_of_le (num_lt q) (by rw [show (4294967296 : Nat) = 2 ^ 32 from rfl]; exact Nat.pow_le_pow_right (by decide) hq)
  constructor
  · intro h
    rw [regB_append, regB_append, regB_noughts hp, regB_num q, Nat.zero_xor, regB_num r] at h
    have hr0 : num r = 0 := by
      clear h hq hlt
      induction r with
      | nil => rfl
      | cons b l ih => simp [num, hr b (by simp), ih fun c hc => hr c (by simp [hc])]
    rw [hr0, Nat.xor_zero] at h
    exact num_eq_zero (stps_eq_zero _ hlt (stps_eq_zero _ (stps_lt _ hlt) h))
  · intro h
    apply regB_noughts
    intro b hb
    simp at hb
    rcases hb with hb | hb | hb
    · exact hp b hb
    · exact h b hb
    · exact hr b hb

end Go.Proofs.Ytjnfnocmjpboiaa.CrcMath
