/-
  Rows of bytes that a call owns: more.
-/
import Derived.Test.YtjnfnocmjpboiaaBytes
namespace Go.Proofs.Ytjnfnocmjpboiaa
open Go.RowKit

theorem OwnB.form {w : World} {base : Nat} {v : Value} {l : List Nat} (h : OwnB w base v l) (hl : 0 < l.length) : ∃ g cap, v = .slice (some ⟨g, 0, none⟩) l.length cap ∧ l.length ≤ cap ∧ cap ≤ maxLen ∧ base ≤ g ∧ g < w.heap.size := by
  rcases h.2.2 with ⟨rfl, h0⟩ | ⟨g, cap, cur, rfl, hb, hg, h1, h2, _⟩
  · omega
  · exact ⟨g, cap, rfl, h1, h2, hb, (Array.getElem?_eq_some_iff.1 hg).1⟩

theorem OwnB.read {w : World} {base n c : Nat} {a : Option Addr} {l : List Nat} (h : OwnB w base (.slice a n c) l) : Txt w a l := by
  obtain ⟨a', c', e, _, _, ht⟩ := h.txt
  injection e with e1 e2 e3
  subst e1
  exact ht
theorem grownBy_set (w : World) (g i : Nat) (x : Value) : w.grownBy (w.setCell ⟨g, i, none⟩ x) (some g) :=
  ⟨rfl, rfl, rfl, by simp [World.setCell], fun k _ hk => Below.heap_setCell w _ x k (fun e => hk (by rw [e]))⟩
theorem OwnB.apart {w : World} {base g n c : Nat} {l : List Nat} (h : OwnB w base (.slice (some ⟨g, 0, none⟩) n c) l) (g' i : Nat) (x : Value) (hne : g ≠ g') : OwnB (w.setCell ⟨g', i, none⟩ x) base (.slice (some ⟨g, 0, none⟩) n c) l :=
  h.kept (grownBy_set w g' i x) (.inr (by simp only [Value.ownBlock, ne_eq, Option.some.injEq]; exact hne))

/-- 'append(v, x...)' in a region, v a row of the call's own, x whatever bytes. -/
theorem step_appendB {w : World} {ops : Array Oper} {o : Oper} {a : Act} {K : Act → World → Prop} {Q : Exit → Act → World → Prop} {E : Prop} (hw : Region.wanted o (yielded ops a.tmps) = true) (s x : Operand)
    (ho : o.op = .call { callee := .builtin .append, args := #[s, x], argTypes := #[25, 25] })
    {base : Nat} {v : Value} {l : List Nat} (hs : a.eval s = v) (hown : OwnB w base v l)
    {A : Option Addr} {n c : Nat} {m : List Nat} (hx : a.eval x = .slice A n c) (hn : n = m.length) (ht : Txt w A m)
    (hlen : l.length + m.length ≤ 1000000000) (hbase : base ≤ w.heap.size)
    (h : ∀ v' w', OwnB w' base v' (l ++ m) → w.grownBy w' v.ownBlock → K (a.put o.dst v') w') :
    if Region.wanted o (yielded ops a.tmps) = true then Oper.wp Try.prog o a w K Q else E := by
  rw [if_pos hw]
  obtain ⟨i0, hi0, hz0, hz1, hz2⟩ := info_parts infoU8
  subst hn
  refine wp_append_row w s x _ ho base 5 i0 _ 1 1 Try.underlying25 hi0 hz0 hz1 hz2 rfl (by omega) v l.length (l.map byteCell) hs hown.2 A m.length c (m.map byteCell) hx (by simp) ht.2 (oneCell_bytes m) (by simp only [maxLen]; omega) (by omega) hbase ?_
  intro v' w' h1 h2 _
  refine h v' w' ⟨?_, by rw [List.map_append, List.length_append]; exact h1⟩ h2
  intro c hc
  rcases List.mem_append.1 hc with hc | hc
  · exact hown.1 c hc
  · exact ht.1 c hc

/-! ### Strings as lists -/
theorem toList_loop (a : ByteArray) : ∀ (n i : Nat) (r : List UInt8), n = a.size - i → ByteArray.toList.loop a i r = r.reverse ++ a.data.toList.drop i := by
  intro n
  induction n with
  | zero =>
    intro i r h
    unfold ByteArray.toList.loop
    have : ¬ i < a.size := by omega
    rw [if_neg this, List.drop_of_length_le (by rw [Array.length_toList]; exact Nat.le_of_not_lt this), List.append_nil]
  | succ n ih =>
    intro i r h
    unfold ByteArray.toList.loop
    have hi : i < a.size := by omega
    rw [if_pos hi, ih (i + 1) _ (by omega), List.reverse_cons, List.append_assoc]
    congr 1
    have hi2 : i < a.data.toList.length := by rw [Array.length_toList]; exact hi
    rw [List.drop_eq_getElem_cons hi2, List.singleton_append]
    congr 1
    show a.data[i]! = _
    rw [getElem!_pos a.data i hi]
    simp
theorem bytes_toList (a : ByteArray) : a.toList = a.data.toList := by
  rw [ByteArray.toList, toList_loop a _ 0 [] rfl]; rfl
theorem strOf_toList_ne {l m : List Nat} (h : ¬ strOf l = strOf m) : ((strOf l).toList == (strOf m).toList) = false := by
  rw [beq_eq_false_iff_ne, bytes_toList, bytes_toList]
  intro e
  apply h
  cases hl : strOf l with
  | mk x => cases hm : strOf m with
    | mk y =>
      rw [hl, hm] at e
      congr 1
      exact Array.toList_inj.1 e

end Go.Proofs.Ytjnfnocmjpboiaa
