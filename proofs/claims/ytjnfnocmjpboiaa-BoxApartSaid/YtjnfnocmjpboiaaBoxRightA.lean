/-
  Layer 7 (box): what Right needs: a part's cells, and chunks that are laid anew.
-/
import Derived.Test.YtjnfnocmjpboiaaBoxOpen
import Derived.Test.YtjnfnocmjpboiaaBoxPack
namespace Go.Proofs.Ytjnfnocmjpboiaa
open Go.RowKit
open CrcMath BoxMath

theorem infoChunk : (Try.prog.info? 36).map (fun i => (i.zero, i.size, i.bytes)) = some (some (.agg #[.int .u8 0, .slice none 0 0]), 2, 32) := by kernel_rfl

theorem flat_at {α β : Type} (f : α → List β) (m : Nat) (hf : ∀ x, (f x).length = m) : ∀ (qs : List α) (k j : Nat) (q : α), qs[k]? = some q → j < m → (qs.flatMap f)[k * m + j]? = (f q)[j]?
  | [], k, j, q, h, _ => by simp at h
  | x :: qs, 0, j, q, h, hj => by
    simp at h
    subst h
    rw [List.flatMap_cons, List.getElem?_append_left (by rw [hf]; omega), Nat.zero_mul, Nat.zero_add]
  | x :: qs, k + 1, j, q, h, hj => by
    rw [List.flatMap_cons, List.getElem?_append_right (by rw [hf, Nat.add_mul]; omega), hf, show (k + 1) * m + j - m = k * m + j by rw [Nat.add_mul]; omega]
    exact flat_at f m hf qs k j q (by simpa using h) hj

/-- Where the parts lie that are owned. -/
theorem PartsOwn.form {w : World} {base : Nat} {v : Value} {ps : List Part} (h : PartsOwn w base v ps) : ∃ a c, v = .slice a ps.length c ∧ ps.length ≤ c ∧ c ≤ maxLen ∧ ∀ (k : Nat) (p : Part), ps[k]? = some p → p.kind < 256 ∧
    ∃ b off dv, a = some ⟨b, off, none⟩ ∧ w.cell? ⟨b, off + k * 4, none⟩ = some (.int .u8 (p.kind : Int)) ∧ w.cell? ⟨b, off + k * 4 + 1, none⟩ = some dv ∧ w.cell? ⟨b, off + k * 4 + 2, none⟩ = some (.int .i64 p.at_) ∧
      w.cell? ⟨b, off + k * 4 + 3, none⟩ = some (.bool p.whole) ∧ OwnB w base dv p.data := by
  obtain ⟨qs, e1, h2, h3⟩ := h
  obtain ⟨a, c, rfl, h4, h5⟩ := ownsRow_form h2
  refine ⟨a, c, rfl, h4, h5, fun k p hk => ?_⟩
  have hr := Row.own h2
  rw [← e1, List.getElem?_map] at hk
  obtain ⟨q, hq, rfl⟩ := Option.map_eq_some_iff.1 hk
  have hf := flat_at (fun q : Part × Value => pcells q.1 q.2) 4 (fun _ => rfl) qs k
  have hpos : 0 < (qs.flatMap fun q => pcells q.1 q.2).length := by
    have := hf 0 q hq (by omega)
    rw [show (pcells q.1 q.2)[0]? = some (.int .u8 (q.1.kind : Int)) from rfl] at this
    have := (List.getElem?_eq_some_iff.1 this).1
    omega
  obtain ⟨b, off, rfl, hc⟩ := hr hpos
  have hm := List.mem_of_getElem? hq
  refine ⟨(h3 q hm).2, b, off, q.2, rfl, hc (k * 4) _ (hf 0 q hq (by omega)), ?_, ?_, ?_, (h3 q hm).1⟩
  · exact hc (k * 4 + 1) _ (hf 1 q hq (by omega))
  · exact hc (k * 4 + 2) _ (hf 2 q hq (by omega))
  · exact hc (k * 4 + 3) _ (hf 3 q hq (by omega))

/-- A chunk's cells, its data at the slice value v. -/
def ccells (p : Nat × List Nat) (v : Value) : List Value := [.int .u8 (p.1 : Int), v]

/-- The slice value v owns the chunks ps, each with data of its own. -/
def ChunksOwn (w : World) (base : Nat) (v : Value) (ps : List (Nat × List Nat)) : Prop :=
  ∃ qs : List ((Nat × List Nat) × Value), qs.map (·.1) = ps ∧ w.ownsRow base 36 2 v ps.length (qs.flatMap fun q => ccells q.1 q.2) ∧ ∀ q ∈ qs, OwnB w 0 q.2 q.1.2 ∧ q.1.1 < 256

theorem ChunksOwn.later {w w' : World} {base : Nat} {v : Value} {ps : List (Nat × List Nat)} (h : ChunksOwn w base v ps) (hb : Below w.heap.size w w') : ChunksOwn w' base v ps := by
  obtain ⟨qs, h1, h2, h3⟩ := h
  refine ⟨qs, h1, ?_, fun q hq => ⟨(h3 q hq).1.later hb, (h3 q hq).2⟩⟩
  refine h2.kept (row := none) ⟨hb.os, hb.tape, hb.output, hb.size, fun k hk _ => hb.block k hk⟩ ?_
  cases hv : v.ownBlock <;> simp
theorem ChunksOwn.nil (w : World) (base : Nat) : ChunksOwn w base (.slice none 0 0) [] := ⟨[], rfl, World.ownsRow_nil w base _ 2, by simp⟩

/-- One chunk more. -/
theorem run_appendC {w : World} {base : Nat} {v : Value} {ps : List (Nat × List Nat)} (h : ChunksOwn w base v ps) (p : Nat × List Nat) (dv : Value) (hd : OwnB w 0 dv p.2) (hk : p.1 < 256)
    {A : Option Addr} {c : Nat} (hr : Row w A (ccells p dv)) (h1 : ∀ u ∈ ccells p dv, u.oneCell' = true) (hlen : ps.length + 1 ≤ 1000000000) (hbase : base ≤ w.heap.size) (ty : TypeId) :
    ∃ v' w', (Builtin.append_ #[22, 22] ty #[v, .slice A 1 c]).run Try.prog w = .ok v' w' ∧ ChunksOwn w' base v' (ps ++ [p]) ∧ w.grownBy w' v.ownBlock ∧ (∀ k, v.ownBlock = some k → base ≤ k) := by
  obtain ⟨i0, hi0, hz0, hz1, hz2⟩ := info_parts infoChunk
  obtain ⟨qs, e1, h2, h3⟩ := h
  obtain ⟨v', w', hrun, ho, hg, _⟩ := run_append_row (P := Try.prog) w base 22 ty 36 i0 _ 2 32 Try.underlying22 hi0 hz0 hz1 hz2 rfl (by omega) v ps.length _ h2 A 1 c (ccells p dv) (by simp [ccells]) hr h1 (by simp only [maxLen]; omega) (by omega) hbase
  refine ⟨v', w', hrun, ⟨qs ++ [(p, dv)], by simp [e1], ?_, ?_⟩, hg, fun k hk => (h2.lt k hk).1⟩
  · rw [List.flatMap_append, List.length_append]
    simpa using ho
  · intro q hq
    rcases List.mem_append.1 hq with hq | hq
    · exact ⟨(h3 q hq).1.kept hg (row_ne (h3 q hq).1.2 h2 (by decide)), (h3 q hq).2⟩
    · simp at hq
      subst hq
      exact ⟨hd.kept hg (row_ne hd.2 h2 (by decide)), hk⟩

theorem wpList_appendC {w : World} {ops : Array Oper} {rest : List Oper} {o : Oper} {a : Act} {Q : Exit → Act → World → Prop} (hgd : o.guard = none) (s x : Operand)
    (ho : o.op = .call { callee := .builtin .append, args := #[s, x], argTypes := #[22, 22] })
    {base : Nat} {v : Value} {ps : List (Nat × List Nat)} (hs : a.eval s = v) (h : ChunksOwn w base v ps) (p : Nat × List Nat) (dv : Value) (hd : OwnB w 0 dv p.2) (hk : p.1 < 256)
    {A : Option Addr} {c : Nat} (hx : a.eval x = .slice A 1 c) (hr : Row w A (ccells p dv)) (h1 : ∀ u ∈ ccells p dv, u.oneCell' = true) (hlen : ps.length + 1 ≤ 1000000000) (hbase : base ≤ w.heap.size)
    (hK : ∀ v' w', ChunksOwn w' base v' (ps ++ [p]) → w.grownBy w' v.ownBlock → (∀ k, v.ownBlock = some k → base ≤ k) → wpList Try.prog ops Q rest (a.put o.dst v') w') : wpList Try.prog ops Q (o :: rest) a w :=
  wpList_plain hgd fun K hK' => by
    obtain ⟨v', w', hrun, h2, h3, h4⟩ := run_appendC h p dv hd hk (c := c) hr h1 hlen hbase o.type
    unfold Oper.wp execOp
    simp only [ho, resolve, invoke, builtin, Sem.run_bind, Sem.run_pure, Result.andThen_ok, List.map_toArray, List.map_cons, List.map_nil, hs, hx, hrun]
    exact hK' _ _ (hK v' w' h2 h3 h4)

/-- Chunks that are owned lie somewhere. -/
theorem ChunksOwn.form {w : World} {base : Nat} {v : Value} {cs : List (Nat × List Nat)} (h : ChunksOwn w base v cs) : ∃ a c, v = .slice a cs.length c ∧ cs.length ≤ c ∧ c ≤ maxLen ∧ Chunks w a cs := by
  obtain ⟨qs, e1, h2, h3⟩ := h
  obtain ⟨a, c, rfl, h4, h5⟩ := ownsRow_form h2
  refine ⟨a, c, rfl, h4, h5, fun k kd l hk => ?_⟩
  have hr := Row.own h2
  rw [← e1, List.getElem?_map] at hk
  obtain ⟨q, hq, hqe⟩ := Option.map_eq_some_iff.1 hk
  have hf := flat_at (fun q : (Nat × List Nat) × Value => ccells q.1 q.2) 2 (fun _ => rfl) qs k
  have hpos : 0 < (qs.flatMap fun q => ccells q.1 q.2).length := by
    have := hf 0 q hq (by omega)
    rw [show (ccells q.1 q.2)[0]? = some (.int .u8 (q.1.1 : Int)) from rfl] at this
    have := (List.getElem?_eq_some_iff.1 this).1
    omega
  obtain ⟨b, off, rfl, hc⟩ := hr hpos
  have hm := List.mem_of_getElem? hq
  have hk2 := (h3 q hm).2
  obtain ⟨A, c', e2, h6, h7, ht⟩ := (h3 q hm).1.txt
  have g1 := hc (k * 2 + 1) _ (hf 1 q hq (by omega))
  rw [e2] at g1
  rw [hqe] at hk2 h6 ht g1
  have g0 := hc (k * 2) _ (hf 0 q hq (by omega))
  rw [hqe] at g0
  exact ⟨hk2, b, off, A, c', rfl, g0, g1, h6, h7, ht⟩

/-- A new block of one chunk: what is appended. -/
theorem row_newC (V : World) (kd : Nat) (p : Nat × List Nat) (dv : Value) (h : p.1 = kd) (h1 : dv.oneCell' = true) :
    Row (V.alloc (.cells #[.int .u8 (kd : Int), dv] 36)) (some ⟨V.heap.size, 0, none⟩) (ccells p dv) ∧ ∀ u ∈ ccells p dv, u.oneCell' = true := by
  subst h
  refine ⟨fun _ => ⟨_, _, rfl, fun j u hj => ?_⟩, fun u hu => ?_⟩
  · rw [World.cell?_alloc_new]
    match j, hj with
    | 0, hj | 1, hj => simp [ccells] at hj; subst hj; rfl
    | n + 2, hj => simp [ccells] at hj
  · simp [ccells] at hu
    rcases hu with rfl | rfl
    · rfl
    · exact h1

end Go.Proofs.Ytjnfnocmjpboiaa
