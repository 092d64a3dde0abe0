/-
  Layer 7 (box): parts.
-/
import Derived.Test.YtjnfnocmjpboiaaBoxHeads
import Derived.Test.YtjnfnocmjpboiaaBoxConcat
namespace Go.Proofs.Ytjnfnocmjpboiaa
open Go.RowKit
open CrcMath BoxMath

theorem infoPart : (Try.prog.info? 38).map (fun i => (i.zero, i.size, i.bytes)) = some (some (.agg #[.int .u8 0, .slice none 0 0, .int .i64 0, .bool false]), 4, 48) := by kernel_rfl

/-- A part's cells, its data at the slice value v. -/
def pcells (p : Part) (v : Value) : List Value := [.int .u8 (p.kind : Int), v, .int .i64 p.at_, .bool p.whole]

/-- The slice value v owns the parts ps, each with data of its own. -/
def PartsOwn (w : World) (base : Nat) (v : Value) (ps : List Part) : Prop :=
  ∃ qs : List (Part × Value), qs.map (·.1) = ps ∧ w.ownsRow base 38 4 v ps.length (qs.flatMap fun q => pcells q.1 q.2) ∧ ∀ q ∈ qs, OwnB w base q.2 q.1.data ∧ q.1.kind < 256

theorem PartsOwn.later {w w' : World} {base : Nat} {v : Value} {ps : List Part} (h : PartsOwn w base v ps) (hb : Below w.heap.size w w') : PartsOwn w' base v ps := by
  obtain ⟨qs, h1, h2, h3⟩ := h
  refine ⟨qs, h1, ?_, fun q hq => ⟨(h3 q hq).1.later hb, (h3 q hq).2⟩⟩
  refine h2.kept (row := none) ⟨hb.os, hb.tape, hb.output, hb.size, fun k hk _ => hb.block k hk⟩ ?_
  cases hv : v.ownBlock <;> simp
theorem PartsOwn.nil (w : World) (base : Nat) : PartsOwn w base (.slice none 0 0) [] := ⟨[], rfl, World.ownsRow_nil w base _ 4, by simp⟩

theorem row_ne {w : World} {base base' e e' size size' n n' : Nat} {v v' : Value} {xs xs' : List Value} (h : w.ownsRow base e size v n xs) (h' : w.ownsRow base' e' size' v' n' xs') (hne : e ≠ e') : v.ownBlock = none ∨ v.ownBlock ≠ v'.ownBlock := by
  rcases h.2 with ⟨rfl, _⟩ | ⟨g, cap, cur, rfl, _, hg, _⟩
  · exact .inl rfl
  · right
    intro e1
    rcases h'.2 with ⟨rfl, _⟩ | ⟨g', cap', cur', rfl, _, hg', _⟩
    · simp [Value.ownBlock] at e1
    · simp [Value.ownBlock] at e1
      subst e1
      rw [hg] at hg'
      injection hg' with hg'
      injection hg' with _ ht
      exact hne ht

/-- One part more. -/
theorem run_appendP {w : World} {base : Nat} {v : Value} {ps : List Part} (h : PartsOwn w base v ps) (p : Part) (dv : Value) (hd : OwnB w base dv p.data) (hk : p.kind < 256)
    {A : Option Addr} {c : Nat} (hr : Row w A (pcells p dv)) (h1 : ∀ u ∈ pcells p dv, u.oneCell' = true) (hlen : ps.length + 1 ≤ 1000000000) (hbase : base ≤ w.heap.size) (ty : TypeId) :
    ∃ v' w', (Builtin.append_ #[32, 32] ty #[v, .slice A 1 c]).run Try.prog w = .ok v' w' ∧ PartsOwn w' base v' (ps ++ [p]) ∧ w.grownBy w' v.ownBlock ∧ (∀ k, v.ownBlock = some k → base ≤ k) := by
  obtain ⟨i0, hi0, hz0, hz1, hz2⟩ := info_parts infoPart
  obtain ⟨qs, e1, h2, h3⟩ := h
  obtain ⟨v', w', hrun, ho, hg, _⟩ := run_append_row (P := Try.prog) w base 32 ty 38 i0 _ 4 48 Try.underlying32 hi0 hz0 hz1 hz2 rfl (by omega) v ps.length _ h2 A 1 c (pcells p dv) (by simp [pcells]) hr h1 (by simp only [maxLen]; omega) (by omega) hbase
  refine ⟨v', w', hrun, ⟨qs ++ [(p, dv)], by simp [e1], ?_, ?_⟩, hg, fun k hk => (h2.lt k hk).1⟩
  · rw [List.flatMap_append, List.length_append]
    simpa using ho
  · intro q hq
    rcases List.mem_append.1 hq with hq | hq
    · exact ⟨(h3 q hq).1.kept hg (row_ne (h3 q hq).1.2 h2 (by decide)), (h3 q hq).2⟩
    · simp at hq
      subst hq
      exact ⟨hd.kept hg (row_ne hd.2 h2 (by decide)), hk⟩

theorem wpList_appendP {w : World} {ops : Array Oper} {rest : List Oper} {o : Oper} {a : Act} {Q : Exit → Act → World → Prop} (hgd : o.guard = none) (s x : Operand)
    (ho : o.op = .call { callee := .builtin .append, args := #[s, x], argTypes := #[32, 32] })
    {base : Nat} {v : Value} {ps : List Part} (hs : a.eval s = v) (h : PartsOwn w base v ps) (p : Part) (dv : Value) (hd : OwnB w base dv p.data) (hk : p.kind < 256)
    {A : Option Addr} {c : Nat} (hx : a.eval x = .slice A 1 c) (hr : Row w A (pcells p dv)) (h1 : ∀ u ∈ pcells p dv, u.oneCell' = true) (hlen : ps.length + 1 ≤ 1000000000) (hbase : base ≤ w.heap.size)
    (hK : ∀ v' w', PartsOwn w' base v' (ps ++ [p]) → w.grownBy w' v.ownBlock → (∀ k, v.ownBlock = some k → base ≤ k) → wpList Try.prog ops Q rest (a.put o.dst v') w') : wpList Try.prog ops Q (o :: rest) a w :=
  wpList_plain hgd fun K hK' => by
    obtain ⟨v', w', hrun, h2, h3, h4⟩ := run_appendP h p dv hd hk (c := c) hr h1 hlen hbase o.type
    unfold Oper.wp execOp
    simp only [ho, resolve, invoke, builtin, Sem.run_bind, Sem.run_pure, Result.andThen_ok, List.map_toArray, List.map_cons, List.map_nil, hs, hx, hrun]
    exact hK' _ _ (hK v' w' h2 h3 h4)

end Go.Proofs.Ytjnfnocmjpboiaa
