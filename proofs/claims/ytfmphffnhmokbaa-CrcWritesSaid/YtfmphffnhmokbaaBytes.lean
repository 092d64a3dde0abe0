/-
  Rows of bytes that a call owns, in this program's numbers: append, make, store.
-/
import Derived.Test.YtfmphffnhmokbaaChecked
import Derived.Test.YtfmphffnhmokbaaMem
namespace Go.Proofs.Ytfmphffnhmokbaa
open Go.RowKit

theorem infoU8 : (Try.prog.info? 5).map (fun i => (i.zero, i.size, i.bytes)) = some (some (.int .u8 0), 1, 1) := by kernel_rfl

/-- The slice value v owns a row of the bytes l, in a block from 'base' on. -/
def OwnB (w : World) (base : Nat) (v : Value) (l : List Nat) : Prop := (∀ c ∈ l, c < 256) ∧ w.ownsRow base 5 1 v l.length (l.map byteCell)

section
variable {w w' : World} {base : Nat} {v : Value} {l : List Nat}

theorem OwnB.new (hb : base ≤ w.heap.size) : OwnB (w.alloc (.cells #[] 5)) base (.slice (some ⟨w.heap.size, 0, none⟩) 0 0) [] :=
  ⟨by simp, World.ownsRow_made w #[] 0 hb (by simp) rfl⟩
theorem OwnB.none_ : OwnB w base (.slice none 0 0) [] := ⟨by simp, World.ownsRow_nil w base _ 1⟩
theorem OwnB.txt (h : OwnB w base v l) : ∃ a c, v = .slice a l.length c ∧ l.length ≤ c ∧ c ≤ maxLen ∧ Txt w a l := by
  obtain ⟨a, c, rfl, h1, h2⟩ := ownsRow_form h.2
  exact ⟨a, c, rfl, h1, h2, Txt.own h.1 h.2⟩
theorem OwnB.later (h : OwnB w base v l) (hb : Below w.heap.size w w') : OwnB w' base v l := by
  refine ⟨h.1, h.2.kept (row := none) ⟨hb.os, hb.tape, hb.output, hb.size, fun k hk _ => hb.block k hk⟩ ?_⟩
  cases hv : v.ownBlock <;> simp
theorem OwnB.kept {row : Option Nat} (h : OwnB w base v l) (hg : w.grownBy w' row) (hne : v.ownBlock = none ∨ v.ownBlock ≠ row) : OwnB w' base v l := ⟨h.1, h.2.kept hg hne⟩
theorem OwnB.set {g c n : Nat} (h : OwnB w base (.slice (some ⟨g, 0, none⟩) n c) l) (i u : Nat) (hu : u < 256) : OwnB (w.setCell ⟨g, i, none⟩ (.int .u8 (u : Int))) base (.slice (some ⟨g, 0, none⟩) n c) (l.set i u) := by
  have hn : n = l.length := by
    rcases h.2.2 with ⟨h', _⟩ | ⟨g', cap', cur, h', _⟩
    · simp at h'
    · injection h' with _ h' _
  subst hn
  refine ⟨fun d hd => ?_, ?_⟩
  · rcases List.mem_or_eq_of_mem_set hd with hd | rfl
    · exact h.1 d hd
    · exact hu
  · have hs := (h.2.stored i (byteCell u)).1
    rw [List.length_set, List.map_set]
    exact hs
theorem OwnB.cell {g c n : Nat} (h : OwnB w base (.slice (some ⟨g, 0, none⟩) n c) l) {i u : Nat} (hi : l[i]? = some u) : w.cell? ⟨g, i, none⟩ = some (.int .u8 (u : Int)) := by
  have hc := h.2.cells (g := g) rfl i (byteCell u) (by rw [List.getElem?_map, hi]; rfl)
  have hadd : (⟨g, 0, none⟩ : Addr).add i = ⟨g, i, none⟩ := by unfold Addr.add; split <;> simp_all
  rw [hadd] at hc
  exact hc
theorem OwnB.thawed {g c n : Nat} (h : OwnB w base (.slice (some ⟨g, 0, none⟩) n c) l) (i : Nat) : w.frozen? ⟨g, i, none⟩ = false := by
  rcases h.2.2 with ⟨h', _⟩ | ⟨g', cap', cur, h', _, hg, _⟩
  · simp at h'
  · simp only [Value.slice.injEq, Option.some.injEq, Addr.mk.injEq, and_true] at h'
    obtain ⟨rfl, _, _⟩ := h'
    exact frozen_of_row w g i cur _ hg
theorem OwnB.made (hb : base ≤ w.heap.size) {n : Nat} (hn : n ≤ 1000000000) : OwnB (w.alloc (.cells (madeCells #[.int .u8 0] n) 5)) base (.slice (some ⟨w.heap.size, 0, none⟩) n n) (List.replicate n 0) := by
  refine ⟨fun d hd => ?_, ?_⟩
  · have := List.eq_of_mem_replicate hd; omega
  · have h := World.ownsRow_lit (e := 5) (size := 1) w (madeCells #[.int .u8 0] n) n hb (by simp only [maxLen]; omega) (by simp [madeCells])
    rw [toList_madeCells_one] at h
    rw [List.length_replicate, List.map_replicate]
    exact h
theorem OwnB.drewN (h : OwnB w base v l) (k : Nat) : OwnB (w.drewN k) base v l := h
theorem OwnB.drew (h : OwnB w base v l) : OwnB w.drew base v l := h
theorem OwnB.lt (h : OwnB w base v l) : ∀ k, v.ownBlock = some k → base ≤ k ∧ k < w.heap.size := h.2.lt
end

/-- 'append(v, x...)', v a row of the call's own, x whatever bytes. -/
theorem wpList_appendB {w : World} {ops : Array Oper} {rest : List Oper} {o : Oper} {a : Act} {Q : Exit → Act → World → Prop} (hgd : o.guard = none) (s x : Operand)
    (ho : o.op = .call { callee := .builtin .append, args := #[s, x], argTypes := #[22, 22] })
    {base : Nat} {v : Value} {l : List Nat} (hs : a.eval s = v) (hown : OwnB w base v l)
    {A : Option Addr} {n c : Nat} {m : List Nat} (hx : a.eval x = .slice A n c) (hn : n = m.length) (ht : Txt w A m)
    (hlen : l.length + m.length ≤ 1000000000) (hbase : base ≤ w.heap.size)
    (h : ∀ v' w', OwnB w' base v' (l ++ m) → w.grownBy w' v.ownBlock → (v'.ownBlock = v.ownBlock ∨ v'.ownBlock = some w.heap.size) → wpList Try.prog ops Q rest (a.put o.dst v') w') : wpList Try.prog ops Q (o :: rest) a w := by
  obtain ⟨i0, hi0, hz0, hz1, hz2⟩ := info_parts infoU8
  subst hn
  refine wpList_append_row w hgd s x _ ho base 5 i0 _ 1 1 Try.underlying22 hi0 hz0 hz1 hz2 rfl (by omega) v l.length (l.map byteCell) hs hown.2 A m.length c (m.map byteCell) hx (by simp) ht.2 (oneCell_bytes m) (by simp only [maxLen]; omega) (by omega) hbase ?_
  intro v' w' h1 h2 h3
  refine h v' w' ⟨?_, by rw [List.map_append, List.length_append]; exact h1⟩ h2 h3
  intro c hc
  rcases List.mem_append.1 hc with hc | hc
  · exact hown.1 c hc
  · exact ht.1 c hc

theorem below_appendB {W w w' : World} {base : Nat} {v : Value} {l : List Nat} (hb : Below W.heap.size W w) (hown : OwnB w base v l) (hbase : W.heap.size ≤ base) (hg : w.grownBy w' v.ownBlock) : Below W.heap.size W w' :=
  below_append hb hown.2 hbase hg

theorem run_convert_str {w : World} {a : Option Addr} {l : List Nat} (h : Txt w a l) (cap : Nat) :
    (convert 22 9 (.slice a l.length cap)).run Try.prog w = .ok (.string (strOf l)) w :=
  run_convert_txt 22 9 5 Try.underlying22 Try.underlying5 Try.underlying9 h cap

end Go.Proofs.Ytfmphffnhmokbaa
