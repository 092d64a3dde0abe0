/-
  Plain law: layer 55 (script): steps, their lines and texts.
-/
import Derived.Lib.ItoaNum
import Derived.Lib.AtoiAll
namespace Go.Proofs.YtjcffbhgjmaicaaDoor.Script
open Go.Lib

/-- A body, its places, its corners' numbers row behind row. -/
structure Body where
  sn : Int
  pn : Nat
  p : List Int
  tn : Nat
  t : List Int
  k : List Int

structure Step where
  kind : Int
  name : List UInt8
  n : List Int
  body : Body

/-- All kinds' words, and how many numbers stand behind them. -/
def shapes : List (List UInt8 × Nat) :=
  [([112, 117, 116], 1), ([103, 101, 116], 1), ([108, 111, 111, 107], 2), ([98, 97, 121], 2), ([99, 97, 114, 118, 101], 3), ([102, 105, 108, 108], 3), ([103, 108, 117, 101], 4),
    ([109, 101, 114, 103, 101], 2), ([115, 112, 111, 105, 108], 3), ([99, 104, 101, 99, 107], 1), ([108, 105, 115, 116], 0), ([116, 119, 105, 110, 115], 0), ([115, 101, 110, 100], 4)]

def shape (k : Int) : Option (List UInt8 × Nat) := if 1 ≤ k ∧ k ≤ 13 then shapes[(k - 1).toNat]? else none

def small (n : Int) : Bool := decide (-1000000000 ≤ n) && decide (n ≤ 1000000000)
def letter (c : UInt8) : Bool := (decide (97 ≤ c.toNat) && decide (c.toNat ≤ 122)) || (decide (48 ≤ c.toNat) && decide (c.toNat ≤ 57))
def named (s : List UInt8) : Bool := decide (1 ≤ s.length) && decide (s.length ≤ 40) && s.all letter

/-- A body's numbers, as they stand in its line. -/
def numbers (b : Body) : List Int := b.sn :: (b.tn : Int) :: (b.k.length : Int) :: (b.p ++ (b.t ++ b.k))
def fits (b : Body) : Bool :=
  decide (0 ≤ b.sn) && decide (b.sn ≤ 4096) && decide ((b.pn : Int) = b.sn) && decide (b.tn ≤ 8192) && decide (b.k.length ≤ 24576) && (numbers b).all small
def empty (b : Body) : Bool := decide (b.sn = 0) && decide (b.pn + b.tn + b.k.length = 0)

/-- Is a step right? -/
def right (s : Step) : Bool :=
  match shape s.kind with
  | none => false
  | some (_, m) => s.n.all small && (s.n.drop m).all (fun x => decide (x = 0)) && (if s.kind = 1 then named s.name && fits s.body else decide (s.name = []) && empty s.body)

/-- The numbers of a step's line. -/
def nums (s : Step) (m : Nat) : List Int := s.n.take m ++ (if s.kind = 1 then numbers s.body else [])
/-- The words of a step's line. -/
def words (s : Step) (w : List UInt8) (m : Nat) : List (List UInt8) := w :: ((if s.kind = 1 then [s.name] else []) ++ (nums s m).map itoa)
/-- Words with blanks between. -/
def spaced : List (List UInt8) → List UInt8
  | [] => []
  | w :: ws => w ++ ws.flatMap (fun x => 32 :: x)
/-- A right step's line. -/
def line (s : Step) : List UInt8 :=
  match shape s.kind with
  | none => spaced (words s [] 0)
  | some (w, m) => spaced (words s w m)
/-- The text of steps. -/
def text (l : List Step) : List UInt8 := l.flatMap fun s => line s ++ [10]

/-- As steps lie in memory. -/
structure Wf (s : Step) : Prop where
  n : s.n.length = 4
  p : s.body.p.length = 3 * s.body.pn
  t : s.body.t.length = 3 * s.body.tn

/-! ### Bytes of a numeral -/

theorem dig_nat {u : Nat} (h : u < 10) : (UInt8.ofNat (48 + u)).toNat = 48 + u := UInt8.toNat_ofNat_of_lt (show 48 + u < 256 by omega)

theorem decDigits_digit (u : Nat) : ∀ c ∈ decDigits u, 48 ≤ c.toNat ∧ c.toNat ≤ 57 := by
  induction u using Nat.strongRecOn with
  | _ u ih =>
    intro c hc
    by_cases h : u < 10
    · rw [decDigits, dif_pos h] at hc
      rw [List.mem_singleton] at hc
      subst hc
      rw [dig_nat h]
      omega
    · rw [decDigits, dif_neg h] at hc
      rcases List.mem_append.1 hc with hc | hc
      · exact ih (u / 10) (by omega) c hc
      · rw [List.mem_singleton] at hc
        subst hc
        rw [dig_nat (by omega)]
        omega

theorem decDigits_ne (u : Nat) : decDigits u ≠ [] := by
  intro h
  have := congrArg List.length h
  rw [decDigits_length] at this
  have := nDigits_pos u
  simp at *
  omega

/-- The number that digits spell. -/
def spell (l : List UInt8) : Nat := l.foldl (fun n c => n * 10 + (c.toNat - 48)) 0

theorem spell_digits (u : Nat) : spell (decDigits u) = u := by
  induction u using Nat.strongRecOn with
  | _ u ih =>
    by_cases h : u < 10
    · rw [decDigits, dif_pos h]
      simp only [spell, List.foldl_cons, List.foldl_nil]
      rw [dig_nat h]
      omega
    · rw [decDigits, dif_neg h]
      have := ih (u / 10) (by omega)
      simp only [spell, List.foldl_append, List.foldl_cons, List.foldl_nil] at this ⊢
      rw [this, dig_nat (by omega)]
      omega

theorem decDigits_inj {u v : Nat} (h : decDigits u = decDigits v) : u = v := by
  have := congrArg spell h
  rwa [spell_digits, spell_digits] at this

theorem digits_head (u : Nat) : (decDigits u).head? ≠ some 45 := by
  intro h
  rcases hl : decDigits u with _ | ⟨c, r⟩
  · exact decDigits_ne u hl
  · rw [hl] at h
    simp at h
    have := decDigits_digit u c (by rw [hl]; simp)
    rw [h] at this
    exact absurd this.1 (by decide)

theorem itoa_inj {a b : Int} (h : itoa a = itoa b) : a = b := by
  unfold itoa at h
  by_cases ha : a < 0
  · rw [if_pos ha] at h
    by_cases hb : b < 0
    · rw [if_pos hb] at h
      injection h with _ h
      have := decDigits_inj h
      omega
    · rw [if_neg hb] at h
      exact absurd (by rw [← h]; rfl) (digits_head b.toNat)
  · rw [if_neg ha] at h
    by_cases hb : b < 0
    · rw [if_pos hb] at h
      exact absurd (by rw [h]; rfl) (digits_head a.toNat)
    · rw [if_neg hb] at h
      have := decDigits_inj h
      omega

theorem itoa_bytes (n : Int) : ∀ c ∈ itoa n, c.toNat = 45 ∨ (48 ≤ c.toNat ∧ c.toNat ≤ 57) := by
  intro c hc
  unfold itoa at hc
  split at hc
  · rcases List.mem_cons.1 hc with rfl | hc
    · exact .inl rfl
    · exact .inr (decDigits_digit _ c hc)
  · exact .inr (decDigits_digit _ c hc)

/-- Are there no blanks and no ends of lines? -/
def plainB (l : List UInt8) : Prop := ∀ c ∈ l, c ≠ 32 ∧ c ≠ 10

theorem itoa_plain (n : Int) : plainB (itoa n) := by
  intro c hc
  have := itoa_bytes n c hc
  constructor
  · rintro rfl; revert this; decide
  · rintro rfl; revert this; decide

theorem named_plain {s : List UInt8} (h : named s = true) : plainB s := by
  intro c hc
  unfold named at h
  simp only [Bool.and_eq_true, List.all_eq_true] at h
  have := h.2 c hc
  constructor
  · rintro rfl; revert this; decide
  · rintro rfl; revert this; decide

theorem shapes_plain : ∀ x ∈ shapes, plainB x.1 ∧ x.1 ≠ [] := by
  unfold plainB
  decide

theorem shape_mem {k : Int} {x : List UInt8 × Nat} (h : shape k = some x) : x ∈ shapes ∧ 1 ≤ k ∧ k ≤ 13 := by
  unfold shape at h
  split at h
  · rename_i hk
    exact ⟨List.mem_of_getElem? h, hk⟩
  · cases h

theorem shapes_many : ∀ x ∈ shapes, x.2 ≤ 4 := by decide

theorem word_inj_fin : ∀ i j : Fin 13, (shapes[i.val]?).map (·.1) = (shapes[j.val]?).map (·.1) → i = j := by decide

theorem word_inj {k l : Int} {w : List UInt8} {m n : Nat} (h : shape k = some (w, m)) (h' : shape l = some (w, n)) : k = l := by
  have hk := shape_mem h
  have hl := shape_mem h'
  unfold shape at h h'
  rw [if_pos hk.2] at h
  rw [if_pos hl.2] at h'
  have := word_inj_fin ⟨(k - 1).toNat, by omega⟩ ⟨(l - 1).toNat, by omega⟩ (by simp only [h, h', Option.map_some])
  have := congrArg Fin.val this
  simp only at this
  omega

/-! ### Splitting at blanks -/

def splitB : List UInt8 → List (List UInt8)
  | [] => [[]]
  | c :: r =>
    if c = 32 then [] :: splitB r
    else match splitB r with
      | [] => [[c]]
      | w :: ws => (c :: w) :: ws

theorem splitB_ne (l : List UInt8) : splitB l ≠ [] := by
  cases l with
  | nil => simp [splitB]
  | cons c r =>
    unfold splitB
    split
    · simp
    · split <;> simp

theorem splitB_blank : ∀ (w : List UInt8) (r : List UInt8), (∀ c ∈ w, c ≠ 32) → splitB (w ++ 32 :: r) = w :: splitB r
  | [], r, _ => by simp [splitB]
  | c :: w, r, h => by
    have ih := splitB_blank w r fun d hd => h d (by simp [hd])
    rw [List.cons_append, splitB, if_neg (h c (by simp)), ih]

theorem splitB_word : ∀ (w : List UInt8), (∀ c ∈ w, c ≠ 32) → splitB w = [w]
  | [], _ => rfl
  | c :: w, h => by
    have ih := splitB_word w fun d hd => h d (by simp [hd])
    rw [splitB, if_neg (h c (by simp)), ih]

theorem splitB_spaced : ∀ (ws : List (List UInt8)) (w : List UInt8), (∀ x ∈ w :: ws, ∀ c ∈ x, c ≠ 32) → splitB (spaced (w :: ws)) = w :: ws
  | [], w, h => by
    have : spaced [w] = w := by simp [spaced]
    rw [this, splitB_word w (h w (by simp))]
  | v :: ws, w, h => by
    have e : spaced (w :: v :: ws) = w ++ 32 :: spaced (v :: ws) := by simp [spaced]
    rw [e, splitB_blank w _ (h w (by simp)), splitB_spaced ws v fun x hx => h x (List.mem_cons_of_mem _ hx)]

theorem spaced_splitB (l : List UInt8) : spaced (splitB l) = l := by
  induction l with
  | nil => rfl
  | cons c r ih =>
    unfold splitB
    split
    · rename_i hc
      subst hc
      rcases hs : splitB r with _ | ⟨w, ws⟩
      · exact absurd hs (splitB_ne r)
      · rw [hs] at ih
        rw [← ih]
        simp [spaced]
    · rcases hs : splitB r with _ | ⟨w, ws⟩
      · exact absurd hs (splitB_ne r)
      · rw [hs] at ih
        rw [← ih]
        simp [spaced]

/-! ### A line tells its step -/

theorem right_shape {s : Step} (h : right s = true) : ∃ w m, shape s.kind = some (w, m) ∧ s.n.all small = true ∧ (s.n.drop m).all (fun x => decide (x = 0)) = true ∧
    (if s.kind = 1 then named s.name && fits s.body else decide (s.name = []) && empty s.body) = true := by
  unfold right at h
  cases hs : shape s.kind with
  | none => rw [hs] at h; cases h
  | some x =>
    obtain ⟨w, m⟩ := x
    rw [hs] at h
    simp only [Bool.and_eq_true] at h
    exact ⟨w, m, rfl, h.1.1, h.1.2, h.2⟩

theorem words_plain {s : Step} (h : right s = true) {w : List UInt8} {m : Nat} (hs : shape s.kind = some (w, m)) : ∀ x ∈ words s w m, plainB x := by
  obtain ⟨w', m', hs', _, _, h3⟩ := right_shape h
  rw [hs] at hs'
  injection hs' with hs'
  injection hs' with e1 e2
  subst e1 e2
  intro x hx
  unfold words at hx
  rcases List.mem_cons.1 hx with rfl | hx
  · exact (shapes_plain _ (shape_mem hs).1).1
  · rcases List.mem_append.1 hx with hx | hx
    · split at hx
      · rename_i hk
        rw [if_pos hk] at h3
        simp only [Bool.and_eq_true] at h3
        simp at hx
        subst hx
        exact named_plain h3.1
      · simp at hx
    · obtain ⟨n, _, rfl⟩ := List.mem_map.1 hx
      exact itoa_plain n

theorem line_words {s : Step} {w : List UInt8} {m : Nat} (hs : shape s.kind = some (w, m)) : line s = spaced (words s w m) := by
  unfold line; rw [hs]

theorem split_line {s : Step} (h : right s = true) {w : List UInt8} {m : Nat} (hs : shape s.kind = some (w, m)) : splitB (line s) = words s w m := by
  rw [line_words hs, words]
  exact splitB_spaced _ _ fun x hx c hc => (words_plain h hs x hx c hc).1

theorem map_itoa_inj : ∀ {l m : List Int}, l.map itoa = m.map itoa → l = m
  | [], [], _ => rfl
  | [], _ :: _, h => by cases h
  | _ :: _, [], h => by cases h
  | a :: l, b :: m, h => by
    simp only [List.map_cons, List.cons.injEq] at h
    rw [itoa_inj h.1, map_itoa_inj h.2]

theorem zeros_eq : ∀ {l m : List Int}, l.all (fun x => decide (x = 0)) = true → m.all (fun x => decide (x = 0)) = true → l.length = m.length → l = m
  | [], [], _, _, _ => rfl
  | [], _ :: _, _, _, h => by simp at h
  | _ :: _, [], _, _, h => by simp at h
  | a :: l, b :: m, ha, hb, h => by
    simp only [List.all_cons, Bool.and_eq_true, decide_eq_true_iff] at ha hb
    rw [ha.1, hb.1, zeros_eq ha.2 hb.2 (by simpa using h)]

theorem numbers_inj {a b : Body} (ha : a.p.length = 3 * a.pn) (hb : b.p.length = 3 * b.pn) (ta : a.t.length = 3 * a.tn) (tb : b.t.length = 3 * b.tn) (hp : a.pn = b.pn) (h : numbers a = numbers b) : a = b := by
  unfold numbers at h
  simp only [List.cons.injEq] at h
  obtain ⟨h1, h2, h3, h4⟩ := h
  have h2' : a.tn = b.tn := by omega
  obtain ⟨e1, h5⟩ := List.append_inj h4 (by omega)
  obtain ⟨e2, e3⟩ := List.append_inj h5 (by omega)
  obtain ⟨s1, p1, q1, t1, u1, k1⟩ := a
  obtain ⟨s2, p2, q2, t2, u2, k2⟩ := b
  simp only at h1 h2' hp e1 e2 e3
  subst h1 h2' hp e1 e2 e3
  rfl

theorem empty_eq {a b : Body} (ha : empty a = true) (hb : empty b = true) (pa : a.p.length = 3 * a.pn) (pb : b.p.length = 3 * b.pn) (ta : a.t.length = 3 * a.tn) (tb : b.t.length = 3 * b.tn) : a = b := by
  unfold empty at ha hb
  simp only [Bool.and_eq_true, decide_eq_true_iff] at ha hb
  obtain ⟨s1, p1, q1, t1, u1, k1⟩ := a
  obtain ⟨s2, p2, q2, t2, u2, k2⟩ := b
  simp only at ha hb pa pb ta tb
  obtain ⟨rfl, ha⟩ := ha
  obtain ⟨rfl, hb⟩ := hb
  have e1 : p1 = 0 := by omega
  have e2 : p2 = 0 := by omega
  have e3 : t1 = 0 := by omega
  have e4 : t2 = 0 := by omega
  subst e1 e2 e3 e4
  have e5 : k1 = [] := List.eq_nil_of_length_eq_zero (by omega)
  have e6 : k2 = [] := List.eq_nil_of_length_eq_zero (by omega)
  have e7 : q1 = [] := List.eq_nil_of_length_eq_zero (by omega)
  have e8 : q2 = [] := List.eq_nil_of_length_eq_zero (by omega)
  have e9 : u1 = [] := List.eq_nil_of_length_eq_zero (by omega)
  have e10 : u2 = [] := List.eq_nil_of_length_eq_zero (by omega)
  rw [e5, e6, e7, e8, e9, e10]

/-- What a line tells: of two right steps with one line each is the other. -/
theorem line_inj {a b : Step} (wa : Wf a) (wb : Wf b) (ha : right a = true) (hb : right b = true) (h : line a = line b) : a = b := by
  obtain ⟨w, m, hs, a1, a2, a3⟩ := right_shape ha
  obtain ⟨v, n, ht, b1, b2, b3⟩ := right_shape hb
  have e := split_line ha hs
  rw [h, split_line hb ht] at e
  unfold words at e
  simp only [List.cons.injEq] at e
  obtain ⟨e1, e2⟩ := e
  subst e1
  have hk : a.kind = b.kind := word_inj hs ht
  rw [← hk, hs] at ht
  injection ht with ht
  injection ht with _ ht
  subst ht
  have hm : m ≤ 4 := shapes_many _ (shape_mem hs).1
  obtain ⟨k1, n1, l1, y1⟩ := a
  obtain ⟨k2, n2, l2, y2⟩ := b
  simp only at hk a2 a3 b2 b3 hs
  subst hk
  have hla := wa.n
  have hlb := wb.n
  simp only at hla hlb
  unfold nums at e2
  simp only at e2
  have hzero : l1.take m = l2.take m → l1 = l2 := fun hh => by
    rw [← List.take_append_drop m l1, ← List.take_append_drop m l2, hh, zeros_eq a2 b2 (by rw [List.length_drop, List.length_drop, hla, hlb])]
  by_cases hp : k1 = 1
  · simp only [if_pos hp] at e2 a3 b3
    simp only [List.cons_append, List.nil_append, List.cons.injEq] at e2
    obtain ⟨e3, e4⟩ := e2
    have e5 := map_itoa_inj e4
    obtain ⟨e6, e7⟩ := List.append_inj e5 (by rw [List.length_take, List.length_take, hla, hlb])
    simp only [Bool.and_eq_true] at a3 b3
    have fa := a3.2
    have fb := b3.2
    unfold fits at fa fb
    simp only [Bool.and_eq_true, decide_eq_true_iff] at fa fb
    have hsn : y1.sn = y2.sn := by
      unfold numbers at e7
      simp only [List.cons.injEq] at e7
      exact e7.1.symm
    have e8 : y2 = y1 := numbers_inj wb.p wa.p wb.t wa.t (by omega) e7
    rw [← e3, ← hzero e6.symm, ← e8]
  · simp only [if_neg hp] at e2 a3 b3
    simp only [List.nil_append, List.append_nil] at e2
    have e6 := map_itoa_inj e2
    simp only [Bool.and_eq_true, decide_eq_true_iff] at a3 b3
    rw [a3.1, b3.1, hzero e6.symm, empty_eq a3.2 b3.2 wa.p wb.p wa.t wb.t]

end Go.Proofs.YtjcffbhgjmaicaaDoor.Script
