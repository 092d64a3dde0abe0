/-
  Plain law: layer 55 (script): the document's example, read.
-/
import Derived.Test.YtjcffbhgjmaicaaDoorScrReadP
import Derived.Test.YtjcffbhgjmaicaaDoorScrLaws
namespace Go.Proofs.YtjcffbhgjmaicaaDoor.Script
open Go.Lib

/-- The step 'get 1'. -/
def get1 : Step := { kind := 2, name := [], n := [1, 0, 0, 0], body := emptyB }

theorem dig1 : decDigits 1 = [49] := by rw [decDigits, dif_pos (by omega)]; rfl
theorem itoa1 : itoa 1 = [49] := by
  unfold itoa
  rw [if_neg (by omega)]
  exact dig1

theorem get1_wf : Wf get1 := ⟨rfl, rfl, rfl⟩
theorem get1_right : right get1 = true := by decide
theorem get1_line : line get1 = [103, 101, 116, 32, 49] := by
  rw [line_words (s := get1) (w := [103, 101, 116]) (m := 1) rfl]
  unfold words
  rw [show nums get1 1 = [1] from rfl]
  simp only [List.map_cons, List.map_nil, itoa1]
  rfl

theorem parse_a1 : parseOf [103, 101, 116, 32, 49, 10] = .ok [get1] := by
  have h : text [get1] = [103, 101, 116, 32, 49, 10] := by
    simp only [text, List.flatMap_cons, List.flatMap_nil, get1_line]
    rfl
  rw [← h]
  refine parse_text ?_ (by simp)
  intro x hx
  rw [List.mem_singleton] at hx
  subst hx
  exact ⟨get1_wf, get1_right⟩

theorem read_a2 : readOf [103, 101, 116, 32, 48, 49] = none := by
  cases h : readOf [103, 101, 116, 32, 48, 49] with
  | none => rfl
  | some x =>
    exfalso
    rw [readOf_cand] at h
    have hs : splitB [103, 101, 116, 32, 48, 49] = [[103, 101, 116], [48, 49]] := by decide
    have hk : kindOf [103, 101, 116] = 2 := by decide
    have hn : numW [48, 49] = some 1 := by decide
    have hc : candW [[103, 101, 116], [48, 49]] = some get1 := by
      unfold candW
      simp only [hk]
      rw [if_neg (by omega), if_neg (by omega)]
      unfold candN
      simp only [numsOf, hn]
      rfl
    rw [hs, hc] at h
    simp only at h
    rw [if_neg] at h
    · cases h
    · rintro ⟨-, hl⟩
      rw [get1_line] at hl
      simp at hl

theorem parse_a2 : parseOf [103, 101, 116, 32, 48, 49, 10] = .bad 1 3 := by
  unfold parseOf
  rw [parseAt, dif_neg (by simp), if_neg (by omega)]
  have e : firstLine [103, 101, 116, 32, 48, 49, 10] = [103, 101, 116, 32, 48, 49] := by decide
  rw [e, read_a2]

theorem parse_a3 : parseOf [103, 101, 116, 32, 49] = .bad 1 4 := by
  unfold parseOf
  rw [parseAt, dif_neg (by simp), if_neg (by omega)]
  have e : firstLine [103, 101, 116, 32, 49] = [103, 101, 116, 32, 49] := by decide
  rw [e, ← get1_line, readOf_line get1_wf get1_right]
  have e2 : hasEnd (line get1) = false := by rw [get1_line]; decide
  simp only [e2]
  rfl

end Go.Proofs.YtjcffbhgjmaicaaDoor.Script
