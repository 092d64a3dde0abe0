/-
  Plain law: layer 55 (script): what the laws ask of a reading that fails, and of a text that is cut.
-/
import Derived.Test.YtjcffbhgjmaicaaDoorScrLaws
namespace Go.Proofs.YtjcffbhgjmaicaaDoor.Script
open Go.Lib

theorem parse_bad_err : ∀ (k : Nat) (s : List UInt8) (n line err : Nat), s.length = k → parseAt n s = .bad line err → err = 3 ∨ err = 4 ∨ err = 7 := by
  intro k
  induction k using Nat.strongRecOn with
  | _ k ih =>
    intro s n line err hk h
    rw [parseAt] at h
    by_cases hs : s = []
    · rw [dif_pos hs] at h; cases h
    · rw [dif_neg hs] at h
      by_cases hn : 200 < n
      · rw [if_pos hn] at h; injection h with _ h1; omega
      · rw [if_neg hn] at h
        cases hr : readOf (firstLine s) with
        | none => rw [hr] at h; injection h with _ h1; omega
        | some x =>
          rw [hr] at h
          simp only at h
          by_cases he : hasEnd s = true
          · rw [if_pos he] at h
            cases hp : parseAt (n + 1) (restLines s) with
            | ok m => rw [hp] at h; cases h
            | bad k' e' =>
              rw [hp] at h
              injection h with h1 h2
              subst h1 h2
              exact ih (restLines s).length (by have := rest_lt hs; omega) (restLines s) (n + 1) k' e' rfl hp
          · rw [if_neg he] at h; injection h with _ h1; omega

/-- A text that isn't read. -/
theorem bad_of {s : List UInt8} {line err : Nat} (h : parseOf s = .bad line err) : 1 ≤ line ∧ (err = 3 ∨ err = 4 ∨ err = 7) :=
  ⟨parse_bad_line s.length s 1 line err rfl h, parse_bad_err s.length s 1 line err rfl h⟩

/-- A text that is read. -/
theorem ok_of {s : List UInt8} {l : List Step} (h : parseOf s = .ok l) : s = text l ∧ (∀ x ∈ l, Wf x ∧ right x = true) ∧ l.length ≤ 200 := by
  obtain ⟨h1, h2, h3⟩ := parse_ok s.length s 1 l rfl h
  refine ⟨h1, h2, ?_⟩
  rcases h3 with h3 | h3
  · rw [h3]; simp
  · omega

/-- The beginning of a line, alone, behind whole lines. -/
theorem parse_cut {l : List Step} (h : ∀ x ∈ l, Wf x ∧ right x = true) (hl : l.length ≤ 60) {r : List UInt8} (hr : ∀ c ∈ r, c ≠ 10) (hne : r ≠ []) :
    ∃ e, parseOf (text l ++ r) = .bad (l.length + 1) e ∧ (e = 3 ∨ e = 4) := by
  unfold parseOf
  rw [parseAt_text l 1 r h (by omega), parseAt.eq_1 _ r, dif_neg hne, if_neg (by omega), (first_no hr).1]
  cases readOf r with
  | none => exact ⟨3, by simp only; rw [Nat.add_comm], .inl rfl⟩
  | some x =>
    simp only [(first_no hr).2]
    exact ⟨4, by rw [if_neg (by decide)]; simp only; rw [Nat.add_comm], .inr rfl⟩

/-- How a text that is cut reads: all that the law asks. -/
theorem cut_law {l : List Step} (h : ∀ x ∈ l, Wf x ∧ right x = true) (hl : l.length ≤ 60) {k : Nat} (hk : k ≤ (text l).length) :
    (((text l).take k).count 10 ≤ l.length) ∧
    ((k = 0 ∨ (text l)[k - 1]? = some 10) → parseOf ((text l).take k) = .ok (l.take (((text l).take k).count 10))) ∧
    (¬ (k = 0 ∨ (text l)[k - 1]? = some 10) → ∃ e, parseOf ((text l).take k) = .bad (((text l).take k).count 10 + 1) e ∧ (e = 3 ∨ e = 4)) := by
  obtain ⟨j, r, h1, h2, h3, h4⟩ := cut_text l k (fun x hx => (h x hx).2) hk
  have hj : ∀ x ∈ l.take j, Wf x ∧ right x = true := fun x hx => h x (List.mem_of_mem_take hx)
  have hjl : (l.take j).length = j := by rw [List.length_take]; omega
  have hc : ((text l).take k).count 10 = j := by
    rw [h2, List.count_append, count10_text _ fun x hx => (hj x hx).2, hjl, List.count_eq_zero.2 (fun hm => h3 10 hm rfl)]
    omega
  have hlen : ((text l).take k).length = k := by rw [List.length_take]; omega
  have hlast : 0 < k → (text l)[k - 1]? = ((text l).take k).getLast? := by
    intro hp
    rw [List.getLast?_eq_getElem?, hlen, List.getElem?_take, if_pos (by omega)]
  rw [hc]
  refine ⟨h1, fun hk0 => ?_, fun hk0 => ?_⟩
  · have hr0 : r = [] := by
      rcases Nat.eq_zero_or_pos k with hz | hp
      · rw [hz, List.take_zero] at h2
        have := congrArg List.length h2
        simp at this
        exact List.eq_nil_of_length_eq_zero (by omega)
      · have hq : (text l)[k - 1]? = some 10 := by
          rcases hk0 with hk0 | hk0
          · omega
          · exact hk0
        rw [hlast hp, h2] at hq
        rcases List.eq_nil_or_concat r with hr | ⟨r', c, hr⟩
        · exact hr
        · exfalso
          subst hr
          rw [List.concat_eq_append, ← List.append_assoc, List.getLast?_concat] at hq
          injection hq with hq
          exact h3 c (by simp) hq
    rw [h2, hr0, List.append_nil]
    exact parse_text hj (by rw [hjl]; omega)
  · have hrn : r ≠ [] := by
      intro hr0
      apply hk0
      rcases Nat.eq_zero_or_pos k with hz | hp
      · exact .inl hz
      · right
        rw [hlast hp, h2, hr0, List.append_nil]
        have hne : l.take j ≠ [] := by
          intro h0
          rw [hr0, h0, List.append_nil] at h2
          rw [h2] at hlen
          simp [text] at hlen
          omega
        obtain ⟨l', x, hx⟩ : ∃ l' x, l.take j = l' ++ [x] := by
          rcases List.eq_nil_or_concat (l.take j) with h0 | ⟨l', x, h0⟩
          · exact absurd h0 hne
          · exact ⟨l', x, by rw [h0, List.concat_eq_append]⟩
        rw [hx, text_append]
        have e : text [x] = line x ++ [10] := by simp [text]
        rw [e, ← List.append_assoc, List.getLast?_concat]
    obtain ⟨e, h5, h6⟩ := parse_cut hj (by rw [hjl]; omega) h3 hrn
    rw [h2]
    rw [hjl] at h5
    exact ⟨e, h5, h6⟩

end Go.Proofs.YtjcffbhgjmaicaaDoor.Script
