/-
  Layer 55 (script): the kinds' words.
-/
import Derived.Test.YtjcffbhgjmaicaaDoorScrSmall
import Derived.Maps.Own
namespace Go.Proofs.YtjcffbhgjmaicaaDoor
open Go.RowKit Go.Maps
open Script

section
variable {P : Program} {w : World}

theorem setBlock_alloc (w : World) (o o' : Obj) : ({ w.alloc o with heap := (w.alloc o).heap.setIfInBounds w.heap.size o' } : World) = w.alloc o' := by
  have e : (w.heap.push o).setIfInBounds w.heap.size o' = w.heap.push o' := by
    apply Array.ext'
    simp
  unfold World.alloc
  simp only [e]

theorem heap_alloc_self (w : World) (o : Obj) : (w.alloc o).heap[w.heap.size]? = some o := by
  unfold World.alloc
  simp

/-- A new key of an int into a map. -/
theorem run_insert_new {b clock : Nat} {es : Array MapEntry} (hb : w.heap[b]? = some (.map es clock)) {T K E : TypeId} (ht : P.underlying T = some (.map K E)) (hk : P.underlying K = some (.int .i64)) (k : Int) (v : Value)
    (hf : Instr.findNow (.int .i64) (.int .i64 k) es.toList 0 = some none) :
    (Instr.mapUpdate T (.map (some b)) (.int .i64 k) v).run P w = .ok () { w with heap := w.heap.setIfInBounds b (.map (es.push ⟨.int .i64 k, v, clock⟩) (clock + 1)) } := by
  have hc : (Instr.checkKey false 10000 K (.int .i64 k)).run P w = .ok () w := by
    exact MapKept.run_checkKey hk (by trivial) false 9999
  have hfind : (Instr.findKey K (.int .i64 k) es.toList).run P w = .ok none w := by
    simp [Instr.findKey, run_underlying hk, hf]
  simp [Instr.mapUpdate, run_underlying ht, MapKept.run_getObj_map hb, hc, hfind, MapKept.run_setObj_map _ hb, Result.andThen]

theorem wpList_insert_new {ops : Array Oper} {rest : List Oper} {o : Oper} {a : Act} {Q : Exit → Act → World → Prop} (hg : o.guard = none) (m x v : Operand) (T : TypeId) (hop : o.op = Op.insert T m x v)
    {clock : Nat} {es : Array MapEntry} {K E : TypeId} (ht : P.underlying T = some (.map K E)) (hk : P.underlying K = some (.int .i64)) (hm : a.eval m = .map (some w.heap.size)) (k : Int) (hx : a.eval x = .int .i64 k) (val : Value) (hv : a.eval v = val)
    (hf : Instr.findNow (.int .i64) (.int .i64 k) es.toList 0 = some none)
    (h : wpList P ops Q rest (a.put o.dst undef) (w.alloc (.map (es.push ⟨.int .i64 k, val, clock⟩) (clock + 1)))) : wpList P ops Q (o :: rest) a (w.alloc (.map es clock)) := by
  refine wpList_plain hg fun K' hK' => ?_
  have hrun := run_insert_new (P := P) (heap_alloc_self w (.map es clock)) ht hk k val hf
  rw [setBlock_alloc] at hrun
  unfold Oper.wp
  simp [execOp, hop, hm, hx, hv, hrun, Result.andThen]
  exact hK' _ _ h
end

/-- The map of the kinds' words. -/
def shapeEntries : Array MapEntry := #[
  ⟨.int .i64 1, .agg #[.string ⟨#[112, 117, 116]⟩, .int .i64 1], 0⟩,
  ⟨.int .i64 2, .agg #[.string ⟨#[103, 101, 116]⟩, .int .i64 1], 1⟩,
  ⟨.int .i64 3, .agg #[.string ⟨#[108, 111, 111, 107]⟩, .int .i64 2], 2⟩,
  ⟨.int .i64 4, .agg #[.string ⟨#[98, 97, 121]⟩, .int .i64 2], 3⟩,
  ⟨.int .i64 5, .agg #[.string ⟨#[99, 97, 114, 118, 101]⟩, .int .i64 3], 4⟩,
  ⟨.int .i64 6, .agg #[.string ⟨#[102, 105, 108, 108]⟩, .int .i64 3], 5⟩,
  ⟨.int .i64 7, .agg #[.string ⟨#[103, 108, 117, 101]⟩, .int .i64 4], 6⟩,
  ⟨.int .i64 8, .agg #[.string ⟨#[109, 101, 114, 103, 101]⟩, .int .i64 2], 7⟩,
  ⟨.int .i64 9, .agg #[.string ⟨#[115, 112, 111, 105, 108]⟩, .int .i64 3], 8⟩,
  ⟨.int .i64 10, .agg #[.string ⟨#[99, 104, 101, 99, 107]⟩, .int .i64 1], 9⟩,
  ⟨.int .i64 11, .agg #[.string ⟨#[108, 105, 115, 116]⟩, .int .i64 0], 10⟩,
  ⟨.int .i64 12, .agg #[.string ⟨#[116, 119, 105, 110, 115]⟩, .int .i64 0], 11⟩,
  ⟨.int .i64 13, .agg #[.string ⟨#[115, 101, 110, 100]⟩, .int .i64 4], 12⟩]

theorem ins_at (w : World) (es : Array MapEntry) (clock : Nat) (k : Int) (v : Value) (hf : Instr.findNow (.int .i64) (.int .i64 k) es.toList 0 = some none) :
    (Instr.mapUpdate 79 (.map (some w.heap.size)) (.int .i64 k) v).run Tryd.prog (w.alloc (.map es clock)) = .ok () (w.alloc (.map (es.push ⟨.int .i64 k, v, clock⟩) (clock + 1))) := by
  have h := run_insert_new (P := Tryd.prog) (heap_alloc_self w (.map es clock)) Tryd.underlying79 Tryd.underlying3 k v hf
  rw [setBlock_alloc] at h
  exact h

set_option maxRecDepth 100000 in
set_option maxHeartbeats 4000000 in
theorem shapes_any (w : World) : Calls Tryd.prog 34 #[] w fun e w' => e = .returned (.map (some w.heap.size)) ∧ w' = w.alloc (.map shapeEntries 13) := by
  have hmm := @run_makeMap Tryd.prog
  have h1 := ins_at w #[] 0 1 (.agg #[.string ⟨#[112, 117, 116]⟩, .int .i64 1]) (by rfl)
  have h2 := ins_at w #[⟨.int .i64 1, .agg #[.string ⟨#[112, 117, 116]⟩, .int .i64 1], 0⟩] 1 2 (.agg #[.string ⟨#[103, 101, 116]⟩, .int .i64 1]) (by rfl)
  have h3 := ins_at w #[⟨.int .i64 1, .agg #[.string ⟨#[112, 117, 116]⟩, .int .i64 1], 0⟩, ⟨.int .i64 2, .agg #[.string ⟨#[103, 101, 116]⟩, .int .i64 1], 1⟩] 2 3 (.agg #[.string ⟨#[108, 111, 111, 107]⟩, .int .i64 2]) (by rfl)
  have h4 := ins_at w #[⟨.int .i64 1, .agg #[.string ⟨#[112, 117, 116]⟩, .int .i64 1], 0⟩, ⟨.int .i64 2, .agg #[.string ⟨#[103, 101, 116]⟩, .int .i64 1], 1⟩, ⟨.int .i64 3, .agg #[.string ⟨#[108, 111, 111, 107]⟩, .int .i64 2], 2⟩] 3 4 (.agg #[.string ⟨#[98, 97, 121]⟩, .int .i64 2]) (by rfl)
  have h5 := ins_at w #[⟨.int .i64 1, .agg #[.string ⟨#[112, 117, 116]⟩, .int .i64 1], 0⟩, ⟨.int .i64 2, .agg #[.string ⟨#[103, 101, 116]⟩, .int .i64 1], 1⟩, ⟨.int .i64 3, .agg #[.string ⟨#[108, 111, 111, 107]⟩, .int .i64 2], 2⟩, ⟨.int .i64 4, .agg #[.string ⟨#[98, 97, 121]⟩, .int .i64 2], 3⟩] 4 5 (.agg #[.string ⟨#[99, 97, 114, 118, 101]⟩, .int .i64 3]) (by rfl)
  have h6 := ins_at w #[⟨.int .i64 1, .agg #[.string ⟨#[112, 117, 116]⟩, .int .i64 1], 0⟩, ⟨.int .i64 2, .agg #[.string ⟨#[103, 101, 116]⟩, .int .i64 1], 1⟩, ⟨.int .i64 3, .agg #[.string ⟨#[108, 111, 111, 107]⟩, .int .i64 2], 2⟩, ⟨.int .i64 4, .agg #[.string ⟨#[98, 97, 121]⟩, .int .i64 2], 3⟩, ⟨.int .i64 5, .agg #[.string ⟨#[99, 97, 114, 118, 101]⟩, .int .i64 3], 4⟩] 5 6 (.agg #[.string ⟨#[102, 105, 108, 108]⟩, .int .i64 3]) (by rfl)
  have h7 := ins_at w #[⟨.int .i64 1, .agg #[.string ⟨#[112, 117, 116]⟩, .int .i64 1], 0⟩, ⟨.int .i64 2, .agg #[.string ⟨#[103, 101, 116]⟩, .int .i64 1], 1⟩, ⟨.int .i64 3, .agg #[.string ⟨#[108, 111, 111, 107]⟩, .int .i64 2], 2⟩, ⟨.int .i64 4, .agg #[.string ⟨#[98, 97, 121]⟩, .int .i64 2], 3⟩, ⟨.int .i64 5, .agg #[.string ⟨#[99, 97, 114, 118, 101]⟩, .int .i64 3], 4⟩, ⟨.int .i64 6, .agg #[.string ⟨#[102, 105, 108, 108]⟩, .int .i64 3], 5⟩] 6 7 (.agg #[.string ⟨#[103, 108, 117, 101]⟩, .int .i64 4]) (by rfl)
  have h8 := ins_at w #[⟨.int .i64 1, .agg #[.string ⟨#[112, 117, 116]⟩, .int .i64 1], 0⟩, ⟨.int .i64 2, .agg #[.string ⟨#[103, 101, 116]⟩, .int .i64 1], 1⟩, ⟨.int .i64 3, .agg #[.string ⟨#[108, 111, 111, 107]⟩, .int .i64 2], 2⟩, ⟨.int .i64 4, .agg #[.string ⟨#[98, 97, 121]⟩, .int .i64 2], 3⟩, ⟨.int .i64 5, .agg #[.string ⟨#[99, 97, 114, 118, 101]⟩, .int .i64 3], 4⟩, ⟨.int .i64 6, .agg #[.string ⟨#[102, 105, 108, 108]⟩, .int .i64 3], 5⟩, ⟨.int .i64 7, .agg #[.string ⟨#[103, 108, 117, 101]⟩, .int .i64 4], 6⟩] 7 8 (.agg #[.string ⟨#[109, 101, 114, 103, 101]⟩, .int .i64 2]) (by rfl)
  have h9 := ins_at w #[⟨.int .i64 1, .agg #[.string ⟨#[112, 117, 116]⟩, .int .i64 1], 0⟩, ⟨.int .i64 2, .agg #[.string ⟨#[103, 101, 116]⟩, .int .i64 1], 1⟩, ⟨.int .i64 3, .agg #[.string ⟨#[108, 111, 111, 107]⟩, .int .i64 2], 2⟩, ⟨.int .i64 4, .agg #[.string ⟨#[98, 97, 121]⟩, .int .i64 2], 3⟩, ⟨.int .i64 5, .agg #[.string ⟨#[99, 97, 114, 118, 101]⟩, .int .i64 3], 4⟩, ⟨.int .i64 6, .agg #[.string ⟨#[102, 105, 108, 108]⟩, .int .i64 3], 5⟩, ⟨.int .i64 7, .agg #[.string ⟨#[103, 108, 117, 101]⟩, .int .i64 4], 6⟩, ⟨.int .i64 8, .agg #[.string ⟨#[109, 101, 114, 103, 101]⟩, .int .i64 2], 7⟩] 8 9 (.agg #[.string ⟨#[115, 112, 111, 105, 108]⟩, .int .i64 3]) (by rfl)
  have h10 := ins_at w #[⟨.int .i64 1, .agg #[.string ⟨#[112, 117, 116]⟩, .int .i64 1], 0⟩, ⟨.int .i64 2, .agg #[.string ⟨#[103, 101, 116]⟩, .int .i64 1], 1⟩, ⟨.int .i64 3, .agg #[.string ⟨#[108, 111, 111, 107]⟩, .int .i64 2], 2⟩, ⟨.int .i64 4, .agg #[.string ⟨#[98, 97, 121]⟩, .int .i64 2], 3⟩, ⟨.int .i64 5, .agg #[.string ⟨#[99, 97, 114, 118, 101]⟩, .int .i64 3], 4⟩, ⟨.int .i64 6, .agg #[.string ⟨#[102, 105, 108, 108]⟩, .int .i64 3], 5⟩, ⟨.int .i64 7, .agg #[.string ⟨#[103, 108, 117, 101]⟩, .int .i64 4], 6⟩, ⟨.int .i64 8, .agg #[.string ⟨#[109, 101, 114, 103, 101]⟩, .int .i64 2], 7⟩, ⟨.int .i64 9, .agg #[.string ⟨#[115, 112, 111, 105, 108]⟩, .int .i64 3], 8⟩] 9 10 (.agg #[.string ⟨#[99, 104, 101, 99, 107]⟩, .int .i64 1]) (by rfl)
  have h11 := ins_at w #[⟨.int .i64 1, .agg #[.string ⟨#[112, 117, 116]⟩, .int .i64 1], 0⟩, ⟨.int .i64 2, .agg #[.string ⟨#[103, 101, 116]⟩, .int .i64 1], 1⟩, ⟨.int .i64 3, .agg #[.string ⟨#[108, 111, 111, 107]⟩, .int .i64 2], 2⟩, ⟨.int .i64 4, .agg #[.string ⟨#[98, 97, 121]⟩, .int .i64 2], 3⟩, ⟨.int .i64 5, .agg #[.string ⟨#[99, 97, 114, 118, 101]⟩, .int .i64 3], 4⟩, ⟨.int .i64 6, .agg #[.string ⟨#[102, 105, 108, 108]⟩, .int .i64 3], 5⟩, ⟨.int .i64 7, .agg #[.string ⟨#[103, 108, 117, 101]⟩, .int .i64 4], 6⟩, ⟨.int .i64 8, .agg #[.string ⟨#[109, 101, 114, 103, 101]⟩, .int .i64 2], 7⟩, ⟨.int .i64 9, .agg #[.string ⟨#[115, 112, 111, 105, 108]⟩, .int .i64 3], 8⟩, ⟨.int .i64 10, .agg #[.string ⟨#[99, 104, 101, 99, 107]⟩, .int .i64 1], 9⟩] 10 11 (.agg #[.string ⟨#[108, 105, 115, 116]⟩, .int .i64 0]) (by rfl)
  have h12 := ins_at w #[⟨.int .i64 1, .agg #[.string ⟨#[112, 117, 116]⟩, .int .i64 1], 0⟩, ⟨.int .i64 2, .agg #[.string ⟨#[103, 101, 116]⟩, .int .i64 1], 1⟩, ⟨.int .i64 3, .agg #[.string ⟨#[108, 111, 111, 107]⟩, .int .i64 2], 2⟩, ⟨.int .i64 4, .agg #[.string ⟨#[98, 97, 121]⟩, .int .i64 2], 3⟩, ⟨.int .i64 5, .agg #[.string ⟨#[99, 97, 114, 118, 101]⟩, .int .i64 3], 4⟩, ⟨.int .i64 6, .agg #[.string ⟨#[102, 105, 108, 108]⟩, .int .i64 3], 5⟩, ⟨.int .i64 7, .agg #[.string ⟨#[103, 108, 117, 101]⟩, .int .i64 4], 6⟩, ⟨.int .i64 8, .agg #[.string ⟨#[109, 101, 114, 103, 101]⟩, .int .i64 2], 7⟩, ⟨.int .i64 9, .agg #[.string ⟨#[115, 112, 111, 105, 108]⟩, .int .i64 3], 8⟩, ⟨.int .i64 10, .agg #[.string ⟨#[99, 104, 101, 99, 107]⟩, .int .i64 1], 9⟩, ⟨.int .i64 11, .agg #[.string ⟨#[108, 105, 115, 116]⟩, .int .i64 0], 10⟩] 11 12 (.agg #[.string ⟨#[116, 119, 105, 110, 115]⟩, .int .i64 0]) (by rfl)
  have h13 := ins_at w #[⟨.int .i64 1, .agg #[.string ⟨#[112, 117, 116]⟩, .int .i64 1], 0⟩, ⟨.int .i64 2, .agg #[.string ⟨#[103, 101, 116]⟩, .int .i64 1], 1⟩, ⟨.int .i64 3, .agg #[.string ⟨#[108, 111, 111, 107]⟩, .int .i64 2], 2⟩, ⟨.int .i64 4, .agg #[.string ⟨#[98, 97, 121]⟩, .int .i64 2], 3⟩, ⟨.int .i64 5, .agg #[.string ⟨#[99, 97, 114, 118, 101]⟩, .int .i64 3], 4⟩, ⟨.int .i64 6, .agg #[.string ⟨#[102, 105, 108, 108]⟩, .int .i64 3], 5⟩, ⟨.int .i64 7, .agg #[.string ⟨#[103, 108, 117, 101]⟩, .int .i64 4], 6⟩, ⟨.int .i64 8, .agg #[.string ⟨#[109, 101, 114, 103, 101]⟩, .int .i64 2], 7⟩, ⟨.int .i64 9, .agg #[.string ⟨#[115, 112, 111, 105, 108]⟩, .int .i64 3], 8⟩, ⟨.int .i64 10, .agg #[.string ⟨#[99, 104, 101, 99, 107]⟩, .int .i64 1], 9⟩, ⟨.int .i64 11, .agg #[.string ⟨#[108, 105, 115, 116]⟩, .int .i64 0], 10⟩, ⟨.int .i64 12, .agg #[.string ⟨#[116, 119, 105, 110, 115]⟩, .int .i64 0], 11⟩] 12 13 (.agg #[.string ⟨#[115, 101, 110, 100]⟩, .int .i64 4]) (by rfl)
  simp only [List.push_toArray, List.cons_append, List.nil_append] at h1 h2 h3 h4 h5 h6 h7 h8 h9 h10 h11 h12 h13
  go_enter Tryd.func34, Tryd.ntmps34
  go_wp2_with fail
  go_ret
  exact ⟨rfl, rfl⟩

/-- What a kind's word reads as. -/
def shapeVal (x : List UInt8 × Nat) : Value := .agg #[.string ⟨x.1.toArray⟩, .int .i64 (x.2 : Int)]

theorem findNow_skip {k i : Int} (h : ¬ k = i) (v : Value) (b : Nat) (l : List MapEntry) (n : Nat) : Instr.findNow (.int .i64) (.int .i64 k) (⟨.int .i64 i, v, b⟩ :: l) n = Instr.findNow (.int .i64) (.int .i64 k) l (n + 1) := by
  have hb : (k == i) = false := by rw [beq_eq_false_iff_ne]; exact h
  simp [Instr.findNow, Instr.sameNow, hb]

theorem find_shape (k : Int) : ∃ i, Instr.findNow (.int .i64) (.int .i64 k) shapeEntries.toList 0 = some ((Script.shape k).map fun x => (i, shapeVal x)) := by
  unfold shapeEntries
  by_cases h1 : k = 1
  · subst h1
    exact ⟨0, rfl⟩
  by_cases h2 : k = 2
  · subst h2
    exact ⟨1, rfl⟩
  by_cases h3 : k = 3
  · subst h3
    exact ⟨2, rfl⟩
  by_cases h4 : k = 4
  · subst h4
    exact ⟨3, rfl⟩
  by_cases h5 : k = 5
  · subst h5
    exact ⟨4, rfl⟩
  by_cases h6 : k = 6
  · subst h6
    exact ⟨5, rfl⟩
  by_cases h7 : k = 7
  · subst h7
    exact ⟨6, rfl⟩
  by_cases h8 : k = 8
  · subst h8
    exact ⟨7, rfl⟩
  by_cases h9 : k = 9
  · subst h9
    exact ⟨8, rfl⟩
  by_cases h10 : k = 10
  · subst h10
    exact ⟨9, rfl⟩
  by_cases h11 : k = 11
  · subst h11
    exact ⟨10, rfl⟩
  by_cases h12 : k = 12
  · subst h12
    exact ⟨11, rfl⟩
  by_cases h13 : k = 13
  · subst h13
    exact ⟨12, rfl⟩
  refine ⟨0, ?_⟩
  have hs : Script.shape k = none := by unfold Script.shape; rw [if_neg (by omega)]
  rw [hs]
  simp only
  rw [findNow_skip h1, findNow_skip h2, findNow_skip h3, findNow_skip h4, findNow_skip h5, findNow_skip h6, findNow_skip h7, findNow_skip h8, findNow_skip h9, findNow_skip h10, findNow_skip h11, findNow_skip h12, findNow_skip h13]
  rfl

theorem run_lookup_at {P : Program} {w : World} {b clock : Nat} {es : Array MapEntry} (hb : w.heap[b]? = some (.map es clock)) (he : es.isEmpty = false) {T K E : TypeId} (ht : P.underlying T = some (.map K E)) (hk : P.underlying K = some (.int .i64)) (k : Int)
    {r : Option (Nat × Value)} (hf : Instr.findNow (.int .i64) (.int .i64 k) es.toList 0 = some r) {z : Value} (hz : (zeroValue E).run P w = .ok z w) (ok : Bool) :
    (Instr.lookup T (.map (some b)) (.int .i64 k) ok).run P w = .ok (if ok then .tuple #[(r.map (·.2)).getD z, .bool r.isSome] else (r.map (·.2)).getD z) w := by
  have hc : (Instr.checkKey false 10000 K (.int .i64 k)).run P w = .ok () w := MapKept.run_checkKey hk (by trivial) false 9999
  have hfind : (Instr.findKey K (.int .i64 k) es.toList).run P w = .ok r w := by
    simp [Instr.findKey, run_underlying hk, hf]
  cases r with
  | none => cases ok <;> simp [Instr.lookup, run_underlying ht, MapKept.run_getObj_map hb, he, hc, hfind, hz, Result.andThen]
  | some x => cases ok <;> simp [Instr.lookup, run_underlying ht, MapKept.run_getObj_map hb, he, hc, hfind, Result.andThen]

/-- The map of the kinds' words lies at r. -/
def ShapesAt (w : World) (r : Nat) : Prop := w.heap[r]? = some (.map shapeEntries 13)

theorem zeroShape (w : World) : (zeroValue 82).run Tryd.prog w = .ok (.agg #[.string ⟨#[]⟩, .int .i64 0]) w := by kernel_rfl

theorem look_shape {w : World} {r : Nat} (h : ShapesAt w r) {k : Int} {x : List UInt8 × Nat} (hs : Script.shape k = some x) (ok : Bool) :
    (Instr.lookup 79 (.map (some r)) (.int .i64 k) ok).run Tryd.prog w = .ok (if ok then .tuple #[shapeVal x, .bool true] else shapeVal x) w := by
  obtain ⟨i, hf⟩ := find_shape k
  rw [hs] at hf
  exact run_lookup_at h rfl Tryd.underlying79 Tryd.underlying3 k hf (zeroShape w) ok

theorem look_none {w : World} {r : Nat} (h : ShapesAt w r) {k : Int} (hs : Script.shape k = none) (ok : Bool) :
    (Instr.lookup 79 (.map (some r)) (.int .i64 k) ok).run Tryd.prog w = .ok (if ok then .tuple #[.agg #[.string ⟨#[]⟩, .int .i64 0], .bool false] else .agg #[.string ⟨#[]⟩, .int .i64 0]) w := by
  obtain ⟨i, hf⟩ := find_shape k
  rw [hs] at hf
  exact run_lookup_at h rfl Tryd.underlying79 Tryd.underlying3 k hf (zeroShape w) ok

theorem shapesAt_new (w : World) : ShapesAt (w.alloc (.map shapeEntries 13)) w.heap.size := heap_alloc_self w _
theorem ShapesAt.below {w w' : World} {r : Nat} (h : ShapesAt w r) (hb : Below w.heap.size w w') : ShapesAt w' r := by
  unfold ShapesAt at h ⊢
  rw [hb.block r (Array.getElem?_eq_some_iff.1 h).1]
  exact h

end Go.Proofs.YtjcffbhgjmaicaaDoor
