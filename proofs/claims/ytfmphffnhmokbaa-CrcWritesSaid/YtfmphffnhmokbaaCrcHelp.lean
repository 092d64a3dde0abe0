/-
  Small lemmas for the walks of the laws of layer 6.
-/
import Derived.Test.YtfmphffnhmokbaaCrcBurst
import Derived.Test.YtfmphffnhmokbaaBytes
import Derived.Deep.OwnRows
import Derived.Deep.RegionWith
import Derived.Deep.QuietTactic
import Derived.BigQuiet
namespace Go.Proofs.Ytfmphffnhmokbaa
open Go.RowKit
open CrcMath

theorem txt_made (W : World) (g n : Nat) (h : W.heap[g]? = some (.cells (madeCells #[.int .u8 0] n) 5)) : Txt W (some ⟨g, 0, none⟩) (List.replicate n 0) := by
  refine Txt.of_at (fun c hc => ?_) fun _ => ⟨g, 0, rfl, fun j u hj => ?_⟩
  · have := List.eq_of_mem_replicate hc; omega
  · rw [cell_of_row W g (0 + j) _ _ _ h]
    have hj' := List.getElem?_eq_some_iff.1 hj
    obtain ⟨hlt, hu⟩ := hj'
    simp at hlt hu
    subst hu
    have hl := congrArg (fun l => l[0 + j]?) (toList_madeCells_one (.int .u8 0) n)
    simp only [Nat.zero_add, Array.getElem?_toList, List.getElem?_replicate] at hl
    rw [Nat.zero_add, hl, if_pos hlt]; rfl

theorem sum_made (W : World) (g n : Nat) (hn : n ≤ 1000000) (h : W.heap[g]? = some (.cells (madeCells #[.int .u8 0] n) 5)) :
    Calls Try.prog 12 #[.slice (some ⟨g, 0, none⟩) n n] W fun e w' => e = .returned (.int .u32 (sum (List.replicate n 0) : Nat)) ∧ W = w' := by
  have h1 := sum_any _ n (List.replicate n 0) W (by simp [maxLen]; omega) (txt_made W g n h)
  rw [List.length_replicate] at h1
  exact h1

theorem heap_alloc_snd (w : World) (o o' : Obj) : ((w.alloc o).alloc o').heap[w.heap.size + 1]? = some o' := by
  have h := heap_alloc_new (w.alloc o) o'
  simpa using h

theorem heap_alloc_fst (w : World) (o o' : Obj) : ((w.alloc o).alloc o').heap[w.heap.size]? = some o := by
  rw [heap_alloc_old (w.alloc o) o' (by simp)]
  exact heap_alloc_new w o

theorem Txt.take {w : World} {a : Option Addr} {l : List Nat} (h : Txt w a l) (n : Nat) : Txt w a (l.take n) := by
  refine Txt.of_at (fun c hc => h.1 c (List.mem_of_mem_take hc)) fun hp => ?_
  obtain ⟨b, off, rfl, hc⟩ := h.at_ (by simp at hp; omega)
  refine ⟨b, off, rfl, fun j u hj => hc j u ?_⟩
  rw [List.getElem?_take] at hj
  split at hj
  · exact hj
  · cases hj

theorem sum_at (W0 : World) (A : Option Addr) (c : Nat) (l : List Nat) (n : Nat) (h : Txt W0 A l) (hn : l.length = n) (hm : n ≤ 1000) (W : World) (hb : Below W0.heap.size W0 W) :
    Calls Try.prog 12 #[.slice A n c] W fun e w' => e = .returned (.int .u32 (sum l : Nat)) ∧ W = w' := by
  subst hn
  exact sum_any A c l W (by simp only [maxLen]; omega) (h.below hb)

theorem OwnB.form {w : World} {base : Nat} {v : Value} {l : List Nat} (h : OwnB w base v l) (hl : 0 < l.length) : ∃ g cap, v = .slice (some ⟨g, 0, none⟩) l.length cap ∧ l.length ≤ cap ∧ cap ≤ maxLen ∧ base ≤ g ∧ g < w.heap.size := by
  rcases h.2.2 with ⟨rfl, h0⟩ | ⟨g, cap, cur, rfl, hb, hg, h1, h2, _⟩
  · omega
  · exact ⟨g, cap, rfl, h1, h2, hb, (Array.getElem?_eq_some_iff.1 hg).1⟩

theorem OwnB.read {w : World} {base n c : Nat} {a : Option Addr} {l : List Nat} (h : OwnB w base (.slice a n c) l) : Txt w a l := by
  obtain ⟨a', c', e, _, _, ht⟩ := h.txt
  injection e with e1 e2 e3
  subst e1
  exact ht
theorem grownBy_set (w : World) (g i : Nat) (x : Value) : w.grownBy (w.setCell ⟨g, i, none⟩ x) (some g) :=
  ⟨rfl, rfl, rfl, by simp [World.setCell], fun k _ hk => Below.heap_setCell w _ x k (fun e => hk (by rw [e]))⟩
theorem OwnB.apart {w : World} {base g n c : Nat} {l : List Nat} (h : OwnB w base (.slice (some ⟨g, 0, none⟩) n c) l) (g' i : Nat) (x : Value) (hne : g ≠ g') : OwnB (w.setCell ⟨g', i, none⟩ x) base (.slice (some ⟨g, 0, none⟩) n c) l :=
  h.kept (grownBy_set w g' i x) (.inr (by simp only [Value.ownBlock, ne_eq, Option.some.injEq]; exact hne))

theorem below_drewN {B : Nat} {a w : World} (h : Below B a w) (n : Nat) : Below B a (w.drewN n) := ⟨h.os, h.tape, h.output, h.size, h.block⟩

theorem sumQ (W0 : World) (A : Option Addr) (c : Nat) (l : List Nat) (n : Nat) (h : Txt W0 A l) (hn : l.length = n) (hm : n ≤ 1000) (k : Nat) :
    Calls Try.prog 12 #[.slice A n c] (W0.drewN k) fun e w' => e = .returned (.int .u32 (sum l : Nat)) ∧ ∃ m, w' = W0.drewN m :=
  (sum_at W0 A c l n h hn hm (W0.drewN k) (below_drewN (Below.refl _ _) k)).mono fun _ _ ⟨he, hw⟩ => ⟨he, k, hw.symm⟩

end Go.Proofs.Ytfmphffnhmokbaa
