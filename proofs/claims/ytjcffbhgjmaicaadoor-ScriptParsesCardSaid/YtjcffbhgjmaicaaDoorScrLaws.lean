/-
  Plain law: layer 55 (script): joins, cuts, one by one.
-/
import Derived.Test.YtjcffbhgjmaicaaDoorScrParse
namespace Go.Proofs.YtjcffbhgjmaicaaDoor.Script
open Go.Lib

theorem text_append (l m : List Step) : text (l ++ m) = text l ++ text m := by simp [text, List.flatMap_append]

/-- The line that is told as wrong is none ahead of where one begins. -/
theorem parse_bad_line : ∀ (k : Nat) (s : List UInt8) (n line err : Nat), s.length = k → parseAt n s = .bad line err → n ≤ line := by
  intro k
  induction k using Nat.strongRecOn with
  | _ k ih =>
    intro s n line err hk h
    rw [parseAt] at h
    by_cases hs : s = []
    · rw [dif_pos hs] at h; cases h
    · rw [dif_neg hs] at h
      by_cases hn : 200 < n
      · rw [if_pos hn] at h; injection h with h1 _; omega
      · rw [if_neg hn] at h
        cases hr : readOf (firstLine s) with
        | none => rw [hr] at h; injection h with h1 _; omega
        | some x =>
          rw [hr] at h
          simp only at h
          by_cases he : hasEnd s = true
          · rw [if_pos he] at h
            cases hp : parseAt (n + 1) (restLines s) with
            | ok m => rw [hp] at h; cases h
            | bad k' e' =>
              rw [hp] at h
              injection h with h1 h2
              subst h1 h2
              have := ih (restLines s).length (by have := rest_lt hs; omega) (restLines s) (n + 1) k' e' rfl hp
              omega
          · rw [if_neg he] at h; injection h with h1 _; omega

/-- What is told farther on. -/
def Read.shift (d : Nat) : Read → Read
  | .ok l => .ok l
  | .bad k e => .bad (k + d) e
/-- How far a reading goes. -/
def Read.far (n : Nat) : Read → Nat
  | .ok l => n + l.length
  | .bad k _ => k + 1

theorem parse_shift : ∀ (k : Nat) (s : List UInt8) (n d : Nat), s.length = k → (parseAt n s).far n + d ≤ 201 → parseAt (n + d) s = (parseAt n s).shift d := by
  intro k
  induction k using Nat.strongRecOn with
  | _ k ih =>
    intro s n d hk h
    rw [parseAt.eq_1 n s] at h ⊢
    rw [parseAt.eq_1 (n + d) s]
    by_cases hs : s = []
    · rw [dif_pos hs, dif_pos hs]; rfl
    · rw [dif_neg hs] at h ⊢
      rw [dif_neg hs]
      by_cases hn : 200 < n
      · rw [if_pos hn] at h
        simp only [Read.far] at h
        omega
      · rw [if_neg hn] at h ⊢
        cases hr : readOf (firstLine s) with
        | none =>
          rw [hr] at h
          simp only [Read.far] at h
          rw [if_neg (by omega)]
          rfl
        | some x =>
          rw [hr] at h
          simp only at h ⊢
          by_cases he : hasEnd s = true
          · rw [if_pos he] at h ⊢
            rw [if_pos he]
            have hrl := rest_lt hs
            have hih := ih (restLines s).length (by omega) (restLines s) (n + 1) d rfl
            have hb := parse_bad_line (restLines s).length (restLines s) (n + 1)
            have hnd : n + 1 + d = n + d + 1 := by omega
            cases hp : parseAt (n + 1) (restLines s) with
            | ok m =>
              rw [hp] at h hih
              simp only [Read.far, List.length_cons] at h hih
              rw [if_neg (by omega), ← hnd, hih (by omega)]
              rfl
            | bad k' e' =>
              rw [hp] at h hih
              simp only [Read.far] at h hih
              have := hb k' e' rfl hp
              rw [if_neg (by omega), ← hnd, hih (by omega)]
              rfl
          · rw [if_neg he] at h ⊢
            simp only [Read.far] at h
            rw [if_neg he, if_neg (by omega)]
            rfl

/-- Texts behind one another. -/
theorem parse_join {l : List Step} (h : ∀ x ∈ l, Wf x ∧ right x = true) (hl : l.length ≤ 60) (s : List UInt8) (hs : (parseOf s).far 1 ≤ 61 + 1) :
    parseOf (text l ++ s) = (match parseOf s with
      | .ok m => .ok (l ++ m)
      | .bad k e => .bad (k + l.length) e) := by
  unfold parseOf at hs ⊢
  rw [parseAt_text l 1 s h (by omega), parse_shift s.length s 1 l.length rfl (by omega)]
  cases parseAt 1 s <;> rfl

theorem text_ne {l : List Step} (h : l ≠ []) : text l ≠ [] := by
  cases l with
  | nil => exact absurd rfl h
  | cons x l => simp [text]

theorem parseAt_full (s : List UInt8) (hs : s ≠ []) : parseAt 201 s = .bad 201 7 := by
  rw [parseAt, dif_neg hs, if_pos (by omega)]

/-- Too many steps. -/
theorem parse_many {l : List Step} (h : ∀ x ∈ l, Wf x ∧ right x = true) (hl : 200 < l.length) : parseOf (text l) = .bad 201 7 := by
  have e : l = l.take 200 ++ l.drop 200 := (List.take_append_drop 200 l).symm
  rw [parseOf, e, text_append, parseAt_text (l.take 200) 1 _ (fun x hx => h x (List.mem_of_mem_take hx)) (by rw [List.length_take]; omega),
    show 1 + (l.take 200).length = 201 from by rw [List.length_take]; omega, parseAt_full _ (text_ne (by
      intro h0
      have := congrArg List.length h0
      rw [List.length_drop] at this
      simp at this
      omega))]

/-- A text of right steps, cut: whole lines, and the beginning of one. -/
theorem cut_text : ∀ (l : List Step) (k : Nat), (∀ x ∈ l, right x = true) → k ≤ (text l).length →
    ∃ j r, j ≤ l.length ∧ (text l).take k = text (l.take j) ++ r ∧ (∀ c ∈ r, c ≠ 10) ∧ (r = [] ∨ j < l.length)
  | [], k, _, hk => ⟨0, [], by simp, by simp [text], by simp, .inl rfl⟩
  | x :: l, k, h, hk => by
    have e : text (x :: l) = line x ++ 10 :: text l := by simp [text]
    have hx := line_no10 (h x (by simp))
    rcases Nat.lt_or_ge (line x).length k with hlt | hge
    · obtain ⟨j, r, h1, h2, h3, h4⟩ := cut_text l (k - (line x).length - 1) (fun y hy => h y (by simp [hy])) (by rw [e, List.length_append, List.length_cons] at hk; omega)
      refine ⟨j + 1, r, by simp; omega, ?_, h3, h4.imp id fun h4 => by simp; omega⟩
      rw [e, List.take_append, List.take_of_length_le (by omega), show k - (line x).length = (k - (line x).length - 1) + 1 from by omega, List.take_succ_cons, h2]
      simp [text]
    · refine ⟨0, (line x).take k, by omega, ?_, fun c hc => hx c (List.mem_of_mem_take hc), .inr (by simp)⟩
      rw [e, List.take_append_of_le_length hge]
      simp [text]

theorem count10_line {x : Step} (h : right x = true) : (line x).count 10 = 0 := by
  rw [List.count_eq_zero]
  exact fun hm => line_no10 h 10 hm rfl

theorem count10_text : ∀ (l : List Step), (∀ x ∈ l, right x = true) → (text l).count 10 = l.length
  | [], _ => rfl
  | x :: l, h => by
    have e : text (x :: l) = line x ++ 10 :: text l := by simp [text]
    rw [e, List.count_append, count10_line (h x (by simp)), List.count_cons_self, count10_text l fun y hy => h y (by simp [hy]), List.length_cons]
    omega

end Go.Proofs.YtjcffbhgjmaicaaDoor.Script
