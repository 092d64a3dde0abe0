/-
  Plain law: layer 55 (script): what a text is read as.
-/
import Derived.Test.YtjcffbhgjmaicaaDoorScrMath
namespace Go.Proofs.YtjcffbhgjmaicaaDoor.Script
open Go.Lib

open Classical in
/-- The right step whose line it is, if there is one. -/
noncomputable def readOf (s : List UInt8) : Option Step := if h : ∃ x : Step, Wf x ∧ right x = true ∧ line x = s then some h.choose else none

theorem readOf_line {x : Step} (hw : Wf x) (hr : right x = true) : readOf (line x) = some x := by
  have h : ∃ y : Step, Wf y ∧ right y = true ∧ line y = line x := ⟨x, hw, hr, rfl⟩
  unfold readOf
  rw [dif_pos h]
  congr 1
  exact line_inj h.choose_spec.1 hw h.choose_spec.2.1 hr h.choose_spec.2.2

theorem readOf_some {s : List UInt8} {x : Step} (h : readOf s = some x) : Wf x ∧ right x = true ∧ line x = s := by
  unfold readOf at h
  split at h
  · rename_i he
    injection h with h
    subst h
    exact he.choose_spec
  · cases h

theorem readOf_none {s : List UInt8} (h : readOf s = none) {x : Step} (hw : Wf x) (hr : right x = true) : line x ≠ s := by
  rintro rfl
  rw [readOf_line hw hr] at h
  cases h

/-- A text's first line, and what stands behind it. -/
def firstLine (s : List UInt8) : List UInt8 := s.takeWhile (fun c => decide (c ≠ 10))
def restLines (s : List UInt8) : List UInt8 := (s.dropWhile (fun c => decide (c ≠ 10))).tail
def hasEnd (s : List UInt8) : Bool := s.contains 10

theorem rest_lt {s : List UInt8} (h : s ≠ []) : (restLines s).length < s.length := by
  unfold restLines
  rw [List.length_tail]
  have h1 : (s.dropWhile (fun c => decide (c ≠ 10))).length ≤ s.length := (List.dropWhile_sublist _).length_le
  have h2 : 0 < s.length := List.length_pos_iff.2 h
  omega

/-- How a text ends: its steps, or a line and an error's number. -/
inductive Read where
  | ok (l : List Step)
  | bad (line err : Nat)

noncomputable def parseAt (n : Nat) (s : List UInt8) : Read :=
  if _hs : s = [] then .ok []
  else if 200 < n then .bad n 7
  else match readOf (firstLine s) with
    | none => .bad n 3
    | some x => if hasEnd s then (match parseAt (n + 1) (restLines s) with
        | .ok l => .ok (x :: l)
        | .bad k e => .bad k e) else .bad n 4
termination_by s.length
decreasing_by exact rest_lt (by assumption)

noncomputable def parseOf (s : List UInt8) : Read := parseAt 1 s

theorem parseAt_nil (n : Nat) : parseAt n [] = .ok [] := by rw [parseAt]; simp

theorem line_no10 {x : Step} (hr : right x = true) : ∀ c ∈ line x, c ≠ 10 := by
  obtain ⟨w, m, hs, _, _, _⟩ := right_shape hr
  have hp := words_plain hr hs
  rw [line_words hs]
  unfold words at hp ⊢
  intro c hc
  unfold spaced at hc
  rcases List.mem_append.1 hc with hc | hc
  · exact (hp w (by simp) c hc).2
  · obtain ⟨y, hy, hc⟩ := List.mem_flatMap.1 hc
    rcases List.mem_cons.1 hc with rfl | hc
    · decide
    · exact (hp y (List.mem_cons_of_mem _ hy) c hc).2

theorem takeWhile_line {l : List UInt8} (h : ∀ c ∈ l, c ≠ 10) (r : List UInt8) : (l ++ 10 :: r).takeWhile (fun c => decide (c ≠ 10)) = l ∧ (l ++ 10 :: r).dropWhile (fun c => decide (c ≠ 10)) = 10 :: r := by
  induction l with
  | nil => simp
  | cons c l ih =>
    have hc := h c (by simp)
    have ih := ih fun d hd => h d (by simp [hd])
    simp only [List.cons_append]
    rw [List.takeWhile_cons_of_pos (by simp [hc]), List.dropWhile_cons_of_pos (by simp [hc]), ih.1, ih.2]
    exact ⟨rfl, rfl⟩

theorem first_of {l : List UInt8} (h : ∀ c ∈ l, c ≠ 10) (r : List UInt8) : firstLine (l ++ 10 :: r) = l ∧ restLines (l ++ 10 :: r) = r ∧ hasEnd (l ++ 10 :: r) = true := by
  obtain ⟨h1, h2⟩ := takeWhile_line h r
  refine ⟨h1, by unfold restLines; rw [h2]; rfl, ?_⟩
  unfold hasEnd
  simp

theorem first_no {l : List UInt8} (h : ∀ c ∈ l, c ≠ 10) : firstLine l = l ∧ hasEnd l = false := by
  constructor
  · unfold firstLine
    induction l with
    | nil => rfl
    | cons c l ih =>
      rw [List.takeWhile_cons_of_pos (by simp [h c (by simp)]), ih fun d hd => h d (by simp [hd])]
  · unfold hasEnd
    rw [List.contains_eq_mem, decide_eq_false_iff_not]
    exact fun hm => h 10 hm rfl

theorem split_first : ∀ {s : List UInt8}, hasEnd s = true → s = firstLine s ++ 10 :: restLines s
  | [], h => by simp [hasEnd] at h
  | c :: r, h => by
    by_cases hc : c = 10
    · subst hc
      simp [firstLine, restLines]
    · have hr : hasEnd r = true := by
        unfold hasEnd at h ⊢
        rw [List.contains_eq_mem, decide_eq_true_iff] at h ⊢
        rcases List.mem_cons.1 h with h | h
        · exact absurd h.symm hc
        · exact h
      have ih := split_first hr
      have e1 : firstLine (c :: r) = c :: firstLine r := by unfold firstLine; rw [List.takeWhile_cons_of_pos (by simp [hc])]
      have e2 : restLines (c :: r) = restLines r := by unfold restLines; rw [List.dropWhile_cons_of_pos (by simp [hc])]
      rw [e1, e2, List.cons_append, ← ih]

/-- A step's line ahead of a text. -/
theorem parseAt_line {x : Step} (hw : Wf x) (hr : right x = true) {n : Nat} (hn : n ≤ 200) (r : List UInt8) :
    parseAt n (line x ++ 10 :: r) = (match parseAt (n + 1) r with
      | .ok l => .ok (x :: l)
      | .bad k e => .bad k e) := by
  obtain ⟨h1, h2, h3⟩ := first_of (line_no10 hr) r
  rw [parseAt, dif_neg (by simp), if_neg (by omega), h1, readOf_line hw hr]
  simp only [h2, h3, if_true]

/-- Texts of right steps ahead of a text. -/
theorem parseAt_text : ∀ (l : List Step) (n : Nat) (r : List UInt8), (∀ x ∈ l, Wf x ∧ right x = true) → n + l.length ≤ 201 →
    parseAt n (text l ++ r) = (match parseAt (n + l.length) r with
      | .ok m => .ok (l ++ m)
      | .bad k e => .bad k e)
  | [], n, r, _, _ => by
    simp only [text, List.flatMap_nil, List.nil_append, List.length_nil, Nat.add_zero]
    cases parseAt n r <;> rfl
  | x :: l, n, r, h, hn => by
    have e : text (x :: l) ++ r = line x ++ 10 :: (text l ++ r) := by simp [text]
    rw [List.length_cons] at hn
    rw [e, parseAt_line (h x (by simp)).1 (h x (by simp)).2 (by omega), parseAt_text l (n + 1) r (fun y hy => h y (by simp [hy])) (by omega), List.length_cons, show n + 1 + l.length = n + (l.length + 1) from by omega]
    cases parseAt (n + (l.length + 1)) r <;> rfl

/-- WHAT IS WRITTEN IS READ AGAIN. -/
theorem parse_text {l : List Step} (h : ∀ x ∈ l, Wf x ∧ right x = true) (hl : l.length ≤ 200) : parseOf (text l) = .ok l := by
  have := parseAt_text l 1 [] h (by omega)
  rw [List.append_nil, parseAt_nil] at this
  rw [parseOf, this]
  simp

/-- What is read is written so; and there are 200 steps at most. -/
theorem parse_ok : ∀ (k : Nat) (s : List UInt8) (n : Nat) (l : List Step), s.length = k → parseAt n s = .ok l → s = text l ∧ (∀ x ∈ l, Wf x ∧ right x = true) ∧ (l = [] ∨ n + l.length ≤ 201) := by
  intro k
  induction k using Nat.strongRecOn with
  | _ k ih =>
    intro s n l hk h
    rw [parseAt] at h
    by_cases hs : s = []
    · rw [dif_pos hs] at h
      injection h with h
      subst h hs
      exact ⟨rfl, by simp, .inl rfl⟩
    · rw [dif_neg hs] at h
      by_cases hn : 200 < n
      · rw [if_pos hn] at h; cases h
      · rw [if_neg hn] at h
        cases hr : readOf (firstLine s) with
        | none => rw [hr] at h; cases h
        | some x =>
          rw [hr] at h
          simp only at h
          by_cases he : hasEnd s = true
          · rw [if_pos he] at h
            cases hp : parseAt (n + 1) (restLines s) with
            | bad k e => rw [hp] at h; cases h
            | ok m =>
              rw [hp] at h
              injection h with h
              subst h
              obtain ⟨i1, i2, i3⟩ := ih (restLines s).length (by have := rest_lt hs; omega) (restLines s) (n + 1) m rfl hp
              obtain ⟨hw, hx, hl⟩ := readOf_some hr
              refine ⟨?_, ?_, .inr ?_⟩
              · have e1 := split_first he
                rw [e1, ← hl, i1]
                simp [text]
              · intro y hy
                rcases List.mem_cons.1 hy with rfl | hy
                · exact ⟨hw, hx⟩
                · exact i2 y hy
              · rw [List.length_cons]
                rcases i3 with i3 | i3
                · rw [i3]; simp; omega
                · omega
          · rw [if_neg he] at h; cases h

end Go.Proofs.YtjcffbhgjmaicaaDoor.Script
