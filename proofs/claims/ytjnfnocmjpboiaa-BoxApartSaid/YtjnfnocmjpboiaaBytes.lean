/-
  Rows of bytes that a call owns, in this program's numbers: append, make, store.
-/
import Derived.Test.YtjnfnocmjpboiaaChecked
import Derived.Test.YtjnfnocmjpboiaaMem
namespace Go.Proofs.Ytjnfnocmjpboiaa
open Go.RowKit

theorem infoU8 : (Try.prog.info? 5).map (fun i => (i.zero, i.size, i.bytes)) = some (some (.int .u8 0), 1, 1) := by kernel_rfl

/-- The slice value v owns a row of the bytes l, in a block from 'base' on. -/
def OwnB (w : World) (base : Nat) (v : Value) (l : List Nat) : Prop := (∀ c ∈ l, c < 256) ∧ w.ownsRow base 5 1 v l.length (l.map byteCell)

section
variable {w w' : World} {base : Nat} {v : Value} {l : List Nat}

theorem OwnB.new (hb : base ≤ w.heap.size) : OwnB (w.alloc (.cells #[] 5)) base (.slice (some ⟨w.heap.size, 0, none⟩) 0 0) [] :=
  ⟨by simp, World.ownsRow_made w #[] 0 hb (by simp) rfl⟩
theorem OwnB.none_ : OwnB w base (.slice none 0 0) [] := ⟨by simp, World.ownsRow_nil w base _ 1⟩
theorem OwnB.txt (h : OwnB w base v l) : ∃ a c, v = .slice a l.length c ∧ l.length ≤ c ∧ c ≤ maxLen ∧ Txt w a l := by
  obtain ⟨a, c, rfl, h1, h2⟩ := ownsRow_form h.2
  exact ⟨a, c, rfl, h1, h2, Txt.own h.1 h.2⟩
theorem OwnB.later (h : OwnB w base v l) (hb : Below w.heap.size w w') : OwnB w' base v l := by
  refine ⟨h.1, h.2.kept (row := none) ⟨hb.os, hb.tape, hb.output, hb.size, fun k hk _ => hb.block k hk⟩ ?_⟩
  cases hv : v.ownBlock <;> simp
theorem OwnB.kept {row : Option Nat} (h : OwnB w base v l) (hg : w.grownBy w' row) (hne : v.ownBlock = none ∨ v.ownBlock ≠ row) : OwnB w' base v l := ⟨h.1, h.2.kept hg hne⟩
theorem OwnB.set {g c n : Nat} (h : OwnB w base (.slice (some ⟨g, 0, none⟩) n c) l) (i u : Nat) (hu : u < 256) : OwnB (w.setCell ⟨g, i, none⟩ (.int .u8 (u : Int))) base (.slice (some ⟨g, 0, none⟩) n c) (l.set i u) := by
  have hn : n = l.length := by
    rcases h.2.2 with ⟨h', _⟩ | ⟨g', cap', cur, h', _⟩
    · simp at h'
    · injection h' with _ h' _
  subst hn
  refine ⟨fun d hd => ?_, ?_⟩
  · rcases List.mem_or_eq_of_mem_set hd with hd | rfl
    · exact h.1 d hd
    · exact hu
  · have hs := (h.2.stored i (byteCell u)).1
    rw [List.length_set, List.map_set]
    exact hs
theorem OwnB.cell {g c n : Nat} (h : OwnB w base (.slice (some ⟨g, 0, none⟩) n c) l) {i u : Nat} (hi : l[i]? = some u) : w.cell? ⟨g, i, none⟩ = some (.int .u8 (u : Int)) := by
  have hc := h.2.cells (g := g) rfl i (byteCell u) (by rw [List.getElem?_map, hi]; rfl)
  have hadd : (⟨g, 0, none⟩ : Addr).add i = ⟨g, i, none⟩ := by unfold Addr.add; split <;> simp_all
  rw [hadd] at hc
  exact hc
theorem OwnB.thawed {g c n : Nat} (h : OwnB w base (.slice (some ⟨g, 0, none⟩) n c) l) (i : Nat) : w.frozen? ⟨g, i, none⟩ = false := by
  rcases h.2.2 with ⟨h', _⟩ | ⟨g', cap', cur, h', _, hg, _⟩
  · simp at h'
  · simp only [Value.slice.injEq, Option.some.injEq, Addr.mk.injEq, and_true] at h'
    obtain ⟨rfl, _, _⟩ := h'
    exact frozen_of_row w g i cur _ hg
theorem OwnB.made (hb : base ≤ w.heap.size) {n : Nat} (hn : n ≤ 1000000000) : OwnB (w.alloc (.cells (madeCells #[.int .u8 0] n) 5)) base (.slice (some ⟨w.heap.size, 0, none⟩) n n) (List.replicate n 0) := by
  refine ⟨fun d hd => ?_, ?_⟩
  · have := List.eq_of_mem_replicate hd; omega
  · have h := World.ownsRow_lit (e := 5) (size := 1) w (madeCells #[.int .u8 0] n) n hb (by simp only [maxLen]; omega) (by simp [madeCells])
    rw [toList_madeCells_one] at h
    rw [List.length_replicate, List.map_replicate]
    exact h
theorem OwnB.drewN (h : OwnB w base v l) (k : Nat) : OwnB (w.drewN k) base v l := h
theorem OwnB.drew (h : OwnB w base v l) : OwnB w.drew base v l := h
theorem OwnB.lt (h : OwnB w base v l) : ∀ k, v.ownBlock = some k → base ≤ k ∧ k < w.heap.size := h.2.lt
end

/-- 'append(v, x...)', v a row of the call's own, x whatever bytes. -/
theorem wpList_appendB {w : World} {ops : Array Oper} {rest : List Oper} {o : Oper} {a : Act} {Q : Exit → Act → World → Prop} (hgd : o.guard = none) (s x : Operand)
    (ho : o.op = .call { callee := .builtin .append, args := #[s, x], argTypes := #[25, 25] })
    {base : Nat} {v : Value} {l : List Nat} (hs : a.eval s = v) (hown : OwnB w base v l)
    {A : Option Addr} {n c : Nat} {m : List Nat} (hx : a.eval x = .slice A n c) (hn : n = m.length) (ht : Txt w A m)
    (hlen : l.length + m.length ≤ 1000000000) (hbase : base ≤ w.heap.size)
    (h : ∀ v' w', OwnB w' base v' (l ++ m) → w.grownBy w' v.ownBlock → (v'.ownBlock = v.ownBlock ∨ v'.ownBlock = some w.heap.size) → wpList Try.prog ops Q rest (a.put o.dst v') w') : wpList Try.prog ops Q (o :: rest) a w := by
  obtain ⟨i0, hi0, hz0, hz1, hz2⟩ := info_parts infoU8
  subst hn
  refine wpList_append_row w hgd s x _ ho base 5 i0 _ 1 1 Try.underlying25 hi0 hz0 hz1 hz2 rfl (by omega) v l.length (l.map byteCell) hs hown.2 A m.length c (m.map byteCell) hx (by simp) ht.2 (oneCell_bytes m) (by simp only [maxLen]; omega) (by omega) hbase ?_
  intro v' w' h1 h2 h3
  refine h v' w' ⟨?_, by rw [List.map_append, List.length_append]; exact h1⟩ h2 h3
  intro c hc
  rcases List.mem_append.1 hc with hc | hc
  · exact hown.1 c hc
  · exact ht.1 c hc

theorem below_appendB {W w w' : World} {base : Nat} {v : Value} {l : List Nat} (hb : Below W.heap.size W w) (hown : OwnB w base v l) (hbase : W.heap.size ≤ base) (hg : w.grownBy w' v.ownBlock) : Below W.heap.size W w' :=
  below_append hb hown.2 hbase hg

/-- What may be appended to: a row of the call's own, or bytes without spare room. -/
def App (w : World) (base : Nat) (v : Value) (l : List Nat) : Prop := OwnB w base v l ∨ ∃ a, v = .slice a l.length l.length ∧ Txt w a l ∧ l.length ≤ 1000000000

theorem App.lt {w : World} {base : Nat} {v : Value} {l : List Nat} (h : App w base v l) : ∀ c ∈ l, c < 256 := by
  rcases h with h | ⟨a, _, h, _⟩
  · exact h.1
  · exact h.1

theorem App.txt {w : World} {base : Nat} {v : Value} {l : List Nat} (h : App w base v l) : ∃ a c, v = .slice a l.length c ∧ l.length ≤ c ∧ c ≤ maxLen ∧ Txt w a l := by
  rcases h with h | ⟨a, rfl, h, hl⟩
  · exact h.txt
  · exact ⟨a, _, rfl, Nat.le_refl _, by simp only [maxLen]; omega, h⟩

theorem App.later {w w' : World} {base : Nat} {v : Value} {l : List Nat} (h : App w base v l) (hb : Below w.heap.size w w') : App w' base v l := by
  rcases h with h | ⟨a, rfl, h, hl⟩
  · exact .inl (h.later hb)
  · exact .inr ⟨a, rfl, h.below hb, hl⟩

/-- A slice's block, as a number that stands alone: where the result of an append lies. -/
def Lies (w : World) (v v' : Value) : Prop := ∀ k, v'.ownBlock = some k → v.ownBlock = some k ∨ w.heap.size ≤ k

theorem run_appendA {w : World} {base : Nat} {v : Value} {l : List Nat} (hown : App w base v l) {A : Option Addr} {c : Nat} {m : List Nat} (ht : Txt w A m) (hm : 0 < m.length)
    (hlen : l.length + m.length ≤ 1000000000) (hbase : base ≤ w.heap.size) (ty : TypeId) :
    ∃ v' w', (Builtin.append_ #[25, 25] ty #[v, .slice A m.length c]).run Try.prog w = .ok v' w' ∧ OwnB w' base v' (l ++ m) ∧ w.grownBy w' v.ownBlock ∧ Lies w v v' := by
  obtain ⟨i0, hi0, hz0, hz1, hz2⟩ := info_parts infoU8
  have hlt : ∀ c ∈ l ++ m, c < 256 := by
    intro c hc
    rcases List.mem_append.1 hc with hc | hc
    · exact hown.lt c hc
    · exact ht.1 c hc
  rcases hown with hown | ⟨a, rfl, hl, hll⟩
  · obtain ⟨v', w', h1, h2, h3, h4⟩ := run_append_row (P := Try.prog) w base 25 ty 5 i0 _ 1 1 Try.underlying25 hi0 hz0 hz1 hz2 rfl (by omega) v l.length (l.map byteCell) hown.2 A m.length c (m.map byteCell) (by simp) ht.2 (oneCell_bytes m) (by simp only [maxLen]; omega) (by omega) hbase
    refine ⟨v', w', h1, ⟨hlt, by rw [List.map_append, List.length_append]; exact h2⟩, h3, fun k hk => ?_⟩
    rcases h4 with h4 | h4
    · exact .inl (h4 ▸ hk)
    · rw [h4] at hk; injection hk with hk; exact .inr (by omega)
  · obtain ⟨b, off, rfl, hcells⟩ := ht.2 (by simpa using hm)
    have hnews : ∀ j u, (m.map byteCell)[j]? = some u → w.cell? ((⟨b, off, none⟩ : Addr).add j) = some u := by
      intro j u hu
      have hadd : (⟨b, off, none⟩ : Addr).add j = ⟨b, off + j, none⟩ := by unfold Addr.add; split <;> simp_all
      rw [hadd]; exact hcells j u hu
    have hge := grownCap_ge w (l.length + m.length) l.length 5
    have hcm := grownCap_le_maxLen w (l.length + m.length) l.length 5 (by simp only [maxLen]; omega)
    have hres : ∀ ww : World, ww = w.drew.alloc (.cells ((l.map byteCell).toArray ++ (m.map byteCell).toArray ++ Builtin.zeroCells (Value.int .u8 0).cells (grownCap w (l.length + m.length) l.length 5 - (l.length + m.length))) 5) →
        OwnB ww base (.slice (some ⟨w.heap.size, 0, none⟩) (l.length + m.length) (grownCap w (l.length + m.length) l.length 5)) (l ++ m) ∧ w.grownBy ww none := by
      rintro ww rfl
      refine ⟨⟨hlt, by simp, .inr ⟨w.heap.size, _, _, by rw [List.length_append], hbase, heap_alloc_new w.drew _, by rw [List.length_append]; exact hge, hcm, ?_, ?_⟩⟩, ⟨rfl, rfl, rfl, by simp, fun k hk _ => heap_alloc_old w.drew _ hk⟩⟩
      · simp [size_zeroCells, Value.cells]; omega
      · have e : (l.map byteCell ++ m.map byteCell).length = l.length + m.length := by simp
        simp only [List.length_append, Array.toList_append, List.map_append, Nat.mul_one]
        rw [← e]
        exact List.take_left
    by_cases hl0 : l.length = 0
    · have hl' : l = [] := List.eq_nil_of_length_eq_zero hl0
      subst hl'
      rcases a with _ | ad
      · have hr := run_append_nil (P := Try.prog) w 25 ty 5 i0 _ Try.underlying25 hi0 hz0 ⟨b, off, none⟩ m.length c (m.map byteCell) (by simp [hz1]) hnews (by omega) (by omega) (by rw [hz2]; omega)
        have h := hres _ rfl
        simp only [List.length_nil, Nat.zero_add, List.nil_append, List.map_nil, Array.empty_append] at h hr ⊢
        exact ⟨_, _, hr, h.1, h.2, fun k hk => .inr (by simp [Value.ownBlock] at hk; omega)⟩
      · have hr := run_append_grow (P := Try.prog) w 25 ty 5 i0 _ Try.underlying25 hi0 hz0 ad 0 0 [] (by simp) (by simp) ⟨b, off, none⟩ m.length c (m.map byteCell) (by simp [hz1]) hnews (by omega) (by omega) (by rw [hz2]; exact growslice_fits (by omega) (by omega))
        have h := hres _ rfl
        simp only [List.length_nil, Nat.zero_add, List.nil_append, List.map_nil, Array.empty_append] at h hr ⊢
        refine ⟨_, _, hr, h.1, ⟨h.2.os, h.2.tape, h.2.output, h.2.size, fun k hk _ => h.2.block k hk (by simp)⟩, fun k hk => .inr (by simp [Value.ownBlock] at hk; omega)⟩
    · obtain ⟨b', off', rfl, hcells'⟩ := hl.2 (by simp; omega)
      have holds : ∀ j u, (l.map byteCell)[j]? = some u → w.cell? ((⟨b', off', none⟩ : Addr).add j) = some u := by
        intro j u hu
        have hadd : (⟨b', off', none⟩ : Addr).add j = ⟨b', off' + j, none⟩ := by unfold Addr.add; split <;> simp_all
        rw [hadd]; exact hcells' j u hu
      have hr := run_append_grow (P := Try.prog) w 25 ty 5 i0 _ Try.underlying25 hi0 hz0 ⟨b', off', none⟩ l.length l.length (l.map byteCell) (by simp [hz1]) holds ⟨b, off, none⟩ m.length c (m.map byteCell) (by simp [hz1]) hnews (by omega) (by omega) (by rw [hz2]; exact growslice_fits (by omega) (by omega))
      have h := hres _ rfl
      refine ⟨_, _, hr, h.1, ⟨h.2.os, h.2.tape, h.2.output, h.2.size, fun k hk _ => h.2.block k hk (by simp)⟩, fun k hk => .inr (by simp [Value.ownBlock] at hk; omega)⟩

theorem wp_appendA {w : World} {o : Oper} {a : Act} {K : Act → World → Prop} {Q : Exit → Act → World → Prop} (s x : Operand)
    (ho : o.op = .call { callee := .builtin .append, args := #[s, x], argTypes := #[25, 25] })
    {base : Nat} {v : Value} {l : List Nat} (hs : a.eval s = v) (hown : App w base v l)
    {A : Option Addr} {n c : Nat} {m : List Nat} (hx : a.eval x = .slice A n c) (hn : n = m.length) (ht : Txt w A m) (hm : 0 < m.length)
    (hlen : l.length + m.length ≤ 1000000000) (hbase : base ≤ w.heap.size)
    (h : ∀ v' w', OwnB w' base v' (l ++ m) → w.grownBy w' v.ownBlock → Lies w v v' → K (a.put o.dst v') w') : o.wp Try.prog a w K Q := by
  subst hn
  obtain ⟨v', w', hrun, h2, h3, h4⟩ := run_appendA hown (c := c) ht hm hlen hbase o.type
  unfold Oper.wp execOp
  simp only [ho, resolve, invoke, builtin, Sem.run_bind, Sem.run_pure, Result.andThen_ok, List.map_toArray, List.map_cons, List.map_nil, hs, hx, hrun]
  exact h v' w' h2 h3 h4

/-- 'append(v, x...)', v what may be appended to, x not empty. -/
theorem wpList_appendA {w : World} {ops : Array Oper} {rest : List Oper} {o : Oper} {a : Act} {Q : Exit → Act → World → Prop} (hgd : o.guard = none) (s x : Operand)
    (ho : o.op = .call { callee := .builtin .append, args := #[s, x], argTypes := #[25, 25] })
    {base : Nat} {v : Value} {l : List Nat} (hs : a.eval s = v) (hown : App w base v l)
    {A : Option Addr} {n c : Nat} {m : List Nat} (hx : a.eval x = .slice A n c) (hn : n = m.length) (ht : Txt w A m) (hm : 0 < m.length)
    (hlen : l.length + m.length ≤ 1000000000) (hbase : base ≤ w.heap.size)
    (h : ∀ v' w', OwnB w' base v' (l ++ m) → w.grownBy w' v.ownBlock → Lies w v v' → wpList Try.prog ops Q rest (a.put o.dst v') w') : wpList Try.prog ops Q (o :: rest) a w :=
  wpList_plain hgd fun _ hK => wp_appendA s x ho hs hown hx hn ht hm hlen hbase fun v' w' h2 h3 h4 => hK _ _ (h v' w' h2 h3 h4)

/-- The same inside a region that draws. -/
theorem step_appendA {w : World} {ops : Array Oper} {o : Oper} {a : Act} {K : Act → World → Prop} {Q : Exit → Act → World → Prop} {E : Prop} (hgd : o.guard = none) (s x : Operand)
    (ho : o.op = .call { callee := .builtin .append, args := #[s, x], argTypes := #[25, 25] })
    {base : Nat} {v : Value} {l : List Nat} (hs : a.eval s = v) (hown : App w base v l)
    {A : Option Addr} {n c : Nat} {m : List Nat} (hx : a.eval x = .slice A n c) (hn : n = m.length) (ht : Txt w A m) (hm : 0 < m.length)
    (hlen : l.length + m.length ≤ 1000000000) (hbase : base ≤ w.heap.size)
    (h : ∀ v' w', OwnB w' base v' (l ++ m) → w.grownBy w' v.ownBlock → Lies w v v' → K (a.put o.dst v') w') :
    if Region.wanted o (yielded ops a.tmps) = true then Oper.wp Try.prog o a w K Q else E := by
  have hw : Region.wanted o (yielded ops a.tmps) = true := by simp [Region.wanted, hgd]
  rw [if_pos hw]
  exact wp_appendA s x ho hs hown hx hn ht hm hlen hbase h

theorem run_convert_str {w : World} {a : Option Addr} {l : List Nat} (h : Txt w a l) (cap : Nat) :
    (convert 25 9 (.slice a l.length cap)).run Try.prog w = .ok (.string (strOf l)) w :=
  run_convert_txt 25 9 5 Try.underlying25 Try.underlying5 Try.underlying9 h cap

end Go.Proofs.Ytjnfnocmjpboiaa
