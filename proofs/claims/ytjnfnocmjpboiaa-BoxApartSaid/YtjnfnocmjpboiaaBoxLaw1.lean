/-
  Layer 7 (box): the law package's awake and great.
-/
import Derived.Test.YtjnfnocmjpboiaaBoxRight2
namespace Go.Proofs.Ytjnfnocmjpboiaa
open Go.RowKit
open CrcMath BoxMath

theorem boxOf_nil_len : (boxOf []).length = 36 := by
  simp only [boxOf, List.length_append, fixedOf_len, tableOf_len, List.length_cons, List.length_nil]; rfl
theorem opened_nil : opened (boxOf []) = some [] := by kernel_rfl
theorem right_nil : rightBox (boxOf []) = true := by kernel_rfl

set_option maxHeartbeats 2000000 in
theorem awake_any (w : World) : Calls Try.prog 10 #[] w fun e w' => e = .returned (.bool true) ∧ Below w.heap.size w w' := by
  have HP := Lib.hid (pack_any none 0 0 [] w rfl (by omega) (by simp [dataOf]) (fun i k l h => by simp at h))
  go_enter Try.func10, Try.ntmps10
  go_wp2_with fail
  refine HP.out.mono ?_
  rintro e w1 ⟨v, rfl, ho, hb1⟩
  obtain ⟨A, c, rfl, h1, h2, t⟩ := ho.txt
  have HO := Lib.hid (open_any A c (boxOf []) w1 h1 h2 (by rw [boxOf_nil_len]; omega) t)
  have HR := Lib.hid (fun (w' : World) (hb : Below w1.heap.size w1 w') => rightBox_any A c (boxOf []) w' h1 h2 (by rw [boxOf_nil_len]; omega) (t.below hb))
  rw [opened_nil] at HO
  rw [right_nil] at HR
  rw [boxOf_nil_len] at HO HR ⊢
  clear ho t h1 h2
  go_wp2_with fail
  refine HO.out.mono ?_
  rintro e w2 ⟨hb2, v2, rfl, hp⟩
  obtain ⟨a2, c2, rfl, _, _, _⟩ := hp.form
  clear hp
  go_wp2_with fail
  refine (HR.out _ hb2).mono ?_
  rintro e w3 ⟨rfl, hb3⟩
  go_wp2_with fail
  go_ret
  have hb12 := hb1.trans (hb2.mono hb1.size)
  exact ⟨rfl, hb12.trans (hb3.mono hb12.size)⟩

/-- Is there more than is looked at? -/
def greatB (cs : List (Nat × List Nat)) : Bool := decide (12 < cs.length) || cs.any fun c => decide (100 < c.2.length)

set_option maxHeartbeats 2000000 in
theorem great_any (a : Option Addr) (n c : Nat) (cs : List (Nat × List Nat)) (w : World) (hn : cs.length = n) (h : Chunks w a cs) :
    Calls Try.prog 11 #[.slice a n c] w fun e w' => e = .returned (.int .i64 (if greatB cs then 1 else 0)) ∧ w' = w := by
  have HX := Lib.hid h
  have HN := Lib.hid hn
  clear h hn
  generalize hr : (if greatB cs then (1 : Int) else 0) = r
  have HR := Lib.hid hr
  clear hr
  by_cases h12 : n ≤ 12
  · go_enter Try.func11, Try.ntmps11
    go_wp2_with fail
    go_loopw [3] (fun i wr => ∃ k : Nat, k ≤ n ∧ i = .int .i64 k ∧ (∀ j p, j < k → cs[j]? = some p → p.2.length ≤ 100) ∧ wr = w) (fun i _ => n - (intOf i).toNat)
    case atStart => exact ⟨0, by omega, rfl, by omega, rfl⟩
    case round =>
      obtain ⟨k, hk, rfl, hs, rfl⟩ := hrel
      by_cases hkn : k < n
      · obtain ⟨⟨kd, l⟩, hck⟩ : ∃ x, cs[k]? = some x := ⟨cs[k]'(by rw [HN.out]; exact hkn), List.getElem?_eq_getElem _⟩
        obtain ⟨hkd, b, off, A, c', rfl, hc1, hc2, hlc, hcc, _⟩ := HX.out k kd l hck
        have HC := Lib.hid hck
        clear hck
        by_cases hl : l.length ≤ 100
        · go_wp2_with fail
          go_roundw
          case rel =>
            refine ⟨k + 1, by omega, by go_num, fun j p hj hp => ?_, by trivial⟩
            rcases Nat.lt_or_ge j k with h | h
            · exact hs j p h hp
            · obtain rfl : j = k := by omega
              have := HC.out
              rw [hp] at this
              injection this with this
              rw [this]; exact hl
          case measure => simp [intOf]; omega
        · have hg : greatB cs = true := by
            unfold greatB
            have : (cs.any fun c => decide (100 < c.2.length)) = true := by
              rw [List.any_eq_true]
              exact ⟨_, List.mem_of_getElem? HC.out, by rw [decide_eq_true_iff]; show 100 < l.length; omega⟩
            rw [this, Bool.or_true]
          have HG := Lib.hid hg
          clear hg
          go_wp2_with fail
          go_ret
          exact ⟨by rw [← HR.out, HG.out]; rfl, rfl⟩
      · obtain rfl : k = n := by omega
        have hg : greatB cs = false := by
          unfold greatB
          have h1 : decide (12 < cs.length) = false := by rw [decide_eq_false_iff_not, HN.out]; omega
          have h2 : (cs.any fun c => decide (100 < c.2.length)) = false := by
            rw [List.any_eq_false]
            intro p hp
            obtain ⟨j, hj⟩ := List.getElem?_of_mem hp
            have hjl := (List.getElem?_eq_some_iff.1 hj).1
            have := hs j p (by have := HN.out; omega) hj
            rw [decide_eq_true_iff]; omega
          rw [h1, h2]; rfl
        have HG := Lib.hid hg
        clear hg
        go_wp2_with fail
        go_ret
        exact ⟨by rw [← HR.out, HG.out]; rfl, rfl⟩
  · have hg : greatB cs = true := by
      unfold greatB
      have : decide (12 < cs.length) = true := by rw [decide_eq_true_iff, HN.out]; omega
      rw [this, Bool.true_or]
    have HG := Lib.hid hg
    clear hg
    go_enter Try.func11, Try.ntmps11
    go_wp2_with fail
    go_ret
    exact ⟨by rw [← HR.out, HG.out]; rfl, rfl⟩

end Go.Proofs.Ytjnfnocmjpboiaa
