/-
  Layer 55 (script): reading a line: words and small laws.
-/
import Derived.Test.YtjcffbhgjmaicaaDoorScrScan
import Derived.Laws.CopyOwn
import Derived.Deep.DeepCutAuto
namespace Go.Proofs.YtjcffbhgjmaicaaDoor
open Go.RowKit
open Go.ChangeMaps (setBlock)
open Script

/-- A step's cells, the rows that it shows new and not shared. -/
def StepF (B : Nat) (V : World) (x : Script.Step) (cs : Array Value) : Prop :=
  StepV V x cs ∧ ∃ (pa ka : Option Addr) (pc kc : Nat), cs[8]? = some (.slice pa x.body.pn pc) ∧ cs[9]? = some (.slice ka x.body.k.length kc) ∧ FreeRow B V pa x.body.pn ∧ FreeRow B V ka x.body.k.length

theorem StepF.mono {B B' : Nat} {V : World} {x : Script.Step} {cs : Array Value} (h : StepF B V x cs) (hB : B' ≤ B) : StepF B' V x cs := by
  obtain ⟨h1, pa, ka, pc, kc, h2, h3, h4, h5⟩ := h
  exact ⟨h1, pa, ka, pc, kc, h2, h3, h4.mono hB, h5.mono hB⟩

/-- What reading a line leaves. -/
def ReadRes (w w' : World) (r : Option Script.Step) (e : Ending) : Prop :=
  match r with
  | none => ∃ k nm n0 n1 n2 n3 b ta pa ka tc pc kc, e = .returned (.tuple #[.agg (stepCells k nm n0 n1 n2 n3 b ta pa ka tc pc kc), .bool false])
  | some x => ∃ cs, e = .returned (.tuple #[.agg cs, .bool true]) ∧ ∀ V : World, (∀ k, w.heap.size ≤ k → k < w'.heap.size → V.heap[k]? = w'.heap[k]?) → StepF w.heap.size V x cs

/-- An empty step's cells. -/
def step0 (k : Int) : Array Value := stepCells k ⟨#[]⟩ 0 0 0 0 Script.emptyB none none none 0 0 0

/-- While the kinds' words are looked at: V is the world ahead of it. -/
def ScanRel (V : World) (w0 : List UInt8) (wr : World) : Prop :=
  ∃ seen c0, 13 ≤ c0 ∧ wr.heap[V.heap.size + 2]? = some (.mapIter (some (V.heap.size + 1)) 13 seen c0) ∧ wr.heap[V.heap.size + 1]? = some (.map shapeEntries 13) ∧
    wr.heap[V.heap.size]? = some (.cells (step0 (kindSeen w0 seen)) 51 (0, 0)) ∧ Below V.heap.size V wr
def scanLeft (r : Nat) (wr : World) : Nat := match wr.heap[r]? with | some (.mapIter _ _ seen _) => (leftOf shapeEntries seen).size | _ => 0

/-- A block of ten cells, cell by cell. -/
theorem ten_cells {V : World} {A : Nat} {c0 c1 c2 c3 c4 c5 c6 c7 c8 c9 : Value} {T : TypeId} (h : V.heap[A]? = some (.cells #[c0, c1, c2, c3, c4, c5, c6, c7, c8, c9] T (0, 0))) :
    (V.cell? ⟨A, 0, none⟩ = some c0 ∧ V.cell? ⟨A, 1, none⟩ = some c1 ∧ V.cell? ⟨A, 2, none⟩ = some c2 ∧ V.cell? ⟨A, 3, none⟩ = some c3 ∧ V.cell? ⟨A, 4, none⟩ = some c4 ∧ V.cell? ⟨A, 5, none⟩ = some c5 ∧ V.cell? ⟨A, 6, none⟩ = some c6 ∧
    V.cell? ⟨A, 7, none⟩ = some c7 ∧ V.cell? ⟨A, 8, none⟩ = some c8 ∧ V.cell? ⟨A, 9, none⟩ = some c9) ∧
    (V.frozen? ⟨A, 0, none⟩ = false ∧ V.frozen? ⟨A, 1, none⟩ = false ∧ V.frozen? ⟨A, 2, none⟩ = false ∧ V.frozen? ⟨A, 3, none⟩ = false ∧ V.frozen? ⟨A, 4, none⟩ = false ∧ V.frozen? ⟨A, 5, none⟩ = false ∧ V.frozen? ⟨A, 6, none⟩ = false ∧
    V.frozen? ⟨A, 7, none⟩ = false ∧ V.frozen? ⟨A, 8, none⟩ = false ∧ V.frozen? ⟨A, 9, none⟩ = false) := by
  refine ⟨⟨?_, ?_, ?_, ?_, ?_, ?_, ?_, ?_, ?_, ?_⟩, ?_, ?_, ?_, ?_, ?_, ?_, ?_, ?_, ?_, ?_⟩
  all_goals first
    | (rw [Lib.cell_of_heap h]; rfl)
    | exact Lib.frozen_of_heap h _

theorem run_whole4 (g : Nat) : ∀ V : World, (Instr.sliceAt 49 (.pointer (some ⟨g, 2, none⟩)) none none none).run Tryd.prog V = .ok (.slice (some ⟨g, 2, none⟩) 4 4) V := fun V => by kernel_rfl

theorem field_shape (x : ByteArray) (m : Int) (V : World) : (Instr.field 82 (.agg #[.string x, .int .i64 m]) 1).run Tryd.prog V = .ok (.int .i64 m) V := by kernel_rfl

theorem infoIntSize : (Tryd.prog.info? 3).map (·.size) = some 1 := by kernel_rfl

/-- copy as one step of a region that draws its order; nothing but the one block turns. -/
theorem step_copy_at {P : Program} {ops : Array Oper} {o : Oper} {a : Act} {w : World} {K : Act → World → Prop} {Q : Exit → Act → World → Prop} {E : Prop} (hgd : o.guard = none) (d s : Operand) (dT sT : TypeId)
    (ho : o.op = .call { callee := .builtin .copy, args := #[d, s], argTypes := #[dT, sT] }) (elem : TypeId) (hu : P.underlying dT = some (.slice elem)) (hsz : (P.info? elem).map (·.size) = some 1)
    (dp sp : Option Addr) (dLen dCap sLen sCap : Nat) (hd : a.eval d = .slice dp dLen dCap) (hs : a.eval s = .slice sp sLen sCap)
    (g off : Nat) (cur : List Value) (t : TypeId) (hg : w.heap[g]? = some (.cells cur.toArray t (0, 0))) (cs : List Value) (hn : cs.length = Nat.min sLen dLen)
    (hpos : 0 < cs.length → dp = some ⟨g, off, none⟩ ∧ ∃ ad, sp = some ad ∧ ∀ j v, cs[j]? = some v → w.cell? (ad.add j) = some v)
    (hfit : off + cs.length ≤ cur.length) (h1 : ∀ v ∈ cs, v.oneCell' = true)
    (h : ∀ w', Hid (w'.heap[g]? = some (.cells (splice cur off cs).toArray t (0, 0))) → w.grownBy w' (some g) → K (a.put o.dst (goInt cs.length)) w') :
    if Region.wanted o (yielded ops a.tmps) = true then Oper.wp P o a w K Q else E := by
  have hw : Region.wanted o (yielded ops a.tmps) = true := by simp [Region.wanted, hgd]
  rw [if_pos hw]
  by_cases h0 : cs.length = 0
  · obtain rfl : cs = [] := List.eq_nil_of_length_eq_zero h0
    have hrun := run_copy_none (P := P) w dT sT o.type elem dp sp dLen dCap sLen sCap hu hsz (by simpa using hn.symm)
    unfold Oper.wp
    simp [execOp, ho, resolve, invoke, builtin, hd, hs, hrun, Result.andThen]
    exact h w (show _ = _ by simpa [splice] using hg) ⟨rfl, rfl, rfl, Nat.le_refl _, fun _ _ _ => rfl⟩
  · obtain ⟨rfl, ad, rfl, hsrc⟩ := hpos (by omega)
    have hrun := run_copy_row (P := P) w dT sT o.type elem g off dLen dCap ad sLen sCap cur.toArray t cs hu hsz hg hn hsrc (by simpa using hfit) h1
    unfold Oper.wp
    simp [execOp, ho, resolve, invoke, builtin, hd, hs, hrun, Result.andThen]
    refine h _ (show _ = _ by simpa [splice] using setRow_heap w g _ _ t _ hg) ⟨rfl, rfl, rfl, by simp [World.setRow], fun k _ hk => setRow_other w g k _ (fun e => hk (by rw [e]))⟩

theorem splice_step (k : Int) (nm : ByteArray) (t : List Value) (L : List Int) (m : Nat) (hm : m ≤ 4) (hl : m ≤ L.length) : ∃ n0 n1 n2 n3, Script.pad (L.take m) = [n0, n1, n2, n3] ∧
    splice ([.int .i64 k, .string nm, .int .i64 0, .int .i64 0, .int .i64 0, .int .i64 0] ++ t) 2 ((L.take m).map intCell) = [.int .i64 k, .string nm, .int .i64 n0, .int .i64 n1, .int .i64 n2, .int .i64 n3] ++ t := by
  match m, L, hm, hl with
  | 0, L, _, _ => exact ⟨0, 0, 0, 0, rfl, rfl⟩
  | 1, a :: L, _, _ => exact ⟨a, 0, 0, 0, rfl, rfl⟩
  | 2, a :: b :: L, _, _ => exact ⟨a, b, 0, 0, rfl, rfl⟩
  | 3, a :: b :: c :: L, _, _ => exact ⟨a, b, c, 0, rfl, rfl⟩
  | 4, a :: b :: c :: d :: L, _, _ => exact ⟨a, b, c, d, rfl, rfl⟩

/-- The step, before it is looked at. -/
def FinRel (V : World) (cw : Option Script.Step) (wr : World) : Prop :=
  ∃ x cs, cw = some x ∧ wr.heap[V.heap.size]? = some (.cells cs 51 (0, 0)) ∧ (∀ U : World, (∀ k, V.heap.size ≤ k → k < wr.heap.size → U.heap[k]? = wr.heap[k]?) → StepF V.heap.size U x cs) ∧ Below V.heap.size V wr

/-- While the numbers are read. -/
def NumRel (wc : World) (ws : List ByteArray) (v i : Value) (wr : World) : Prop :=
  ∃ (j : Nat) (L : List Int), j ≤ ws.length ∧ i = .int .i64 j ∧ numsOf ((ws.take j).map (·.data.toList)) = some L ∧ OwnI wr wc.heap.size v L ∧ Below wc.heap.size wc wr

theorem numsOf_none {w : List UInt8} : ∀ {ws : List (List UInt8)}, w ∈ ws → numW w = none → numsOf ws = none
  | [], h, _ => by cases h
  | v :: ws, h, hn => by
    rcases List.mem_cons.1 h with rfl | h
    · simp only [numsOf, hn]
    · simp only [numsOf, numsOf_none h hn]
      cases numW v <;> rfl

theorem ints_new1 (W : World) (e : TypeId) (x : Int) : Ints (W.alloc (.cells #[.int .i64 x] e)) (some ⟨W.heap.size, 0, none⟩) [x] := by
  refine fun _ => ⟨_, _, rfl, fun j u hj => ?_⟩
  rw [World.cell?_alloc_new]
  match j, hj with
  | 0, hj => simp [intCell] at hj; subst hj; rfl
  | n + 1, hj => simp at hj

theorem splitB_le : ∀ (l : List UInt8) (w : List UInt8), w ∈ Script.splitB l → w.length ≤ l.length
  | [], w, h => by simp [Script.splitB] at h; subst h; simp
  | c :: r, w, h => by
    unfold Script.splitB at h
    split at h
    · rcases List.mem_cons.1 h with rfl | h
      · simp
      · have := splitB_le r w h
        rw [List.length_cons]; omega
    · split at h
      · rename_i hr
        exact absurd hr (Script.splitB_ne r)
      · rename_i v vs hr
        rcases List.mem_cons.1 h with rfl | h
        · have := splitB_le r v (by rw [hr]; simp)
          rw [List.length_cons, List.length_cons]; omega
        · have := splitB_le r w (by rw [hr]; simp [h])
          rw [List.length_cons]; omega

/-- The result's cells, written. -/
theorem exit_below {w V : World} (h : Below w.heap.size w V) {x0 x1 x2 x3 x4 x5 x6 x7 x8 x9 : Value} : Below w.heap.size w
    ((((((((((V.setCell ⟨w.heap.size, 0, none⟩ x0).setCell ⟨w.heap.size, 1, none⟩ x1).setCell ⟨w.heap.size, 2, none⟩ x2).setCell ⟨w.heap.size, 3, none⟩ x3).setCell ⟨w.heap.size, 4, none⟩ x4).setCell ⟨w.heap.size, 5, none⟩ x5).setCell ⟨w.heap.size, 6, none⟩ x6).setCell ⟨w.heap.size, 7, none⟩ x7).setCell ⟨w.heap.size, 8, none⟩ x8).setCell ⟨w.heap.size, 9, none⟩ x9) := by
  exact ((((((((((h.setCell (p := ⟨w.heap.size, 0, none⟩) (Nat.le_refl _) x0).setCell (p := ⟨w.heap.size, 1, none⟩) (Nat.le_refl _) x1).setCell (p := ⟨w.heap.size, 2, none⟩) (Nat.le_refl _) x2).setCell (p := ⟨w.heap.size, 3, none⟩) (Nat.le_refl _) x3).setCell (p := ⟨w.heap.size, 4, none⟩) (Nat.le_refl _) x4).setCell (p := ⟨w.heap.size, 5, none⟩) (Nat.le_refl _) x5).setCell (p := ⟨w.heap.size, 6, none⟩) (Nat.le_refl _) x6).setCell (p := ⟨w.heap.size, 7, none⟩) (Nat.le_refl _) x7).setCell (p := ⟨w.heap.size, 8, none⟩) (Nat.le_refl _) x8).setCell (p := ⟨w.heap.size, 9, none⟩) (Nat.le_refl _) x9)

/-- The worlds in which the step's cells stand. -/
def SR (w w1 wc V : World) : Prop := Below w.heap.size w V ∧ (∀ k, w1.heap.size ≤ k → k < wc.heap.size → V.heap[k]? = wc.heap[k]?) ∧ wc.heap.size ≤ V.heap.size
theorem SR.below {w w1 wc V : World} (h : Below w.heap.size w wc) (hV : Below wc.heap.size wc V) : SR w w1 wc V := ⟨h.trans (hV.mono h.size), fun k _ h2 => hV.block k h2, hV.size⟩
theorem SR.exit {w w1 wc V : World} (h : SR w w1 wc V) (hlt : w.heap.size < w1.heap.size) {x0 x1 x2 x3 x4 x5 x6 x7 x8 x9 : Value} : SR w w1 wc
    ((((((((((V.setCell ⟨w.heap.size, 0, none⟩ x0).setCell ⟨w.heap.size, 1, none⟩ x1).setCell ⟨w.heap.size, 2, none⟩ x2).setCell ⟨w.heap.size, 3, none⟩ x3).setCell ⟨w.heap.size, 4, none⟩ x4).setCell ⟨w.heap.size, 5, none⟩ x5).setCell ⟨w.heap.size, 6, none⟩ x6).setCell ⟨w.heap.size, 7, none⟩ x7).setCell ⟨w.heap.size, 8, none⟩ x8).setCell ⟨w.heap.size, 9, none⟩ x9) := by
  refine ⟨exit_below h.1, fun k h1 h2 => ?_, by simp only [World.size_setCell]; exact h.2.2⟩
  have hne : k ≠ w.heap.size := by omega
  rw [Below.heap_setCell _ _ _ _ hne, Below.heap_setCell _ _ _ _ hne, Below.heap_setCell _ _ _ _ hne, Below.heap_setCell _ _ _ _ hne, Below.heap_setCell _ _ _ _ hne, Below.heap_setCell _ _ _ _ hne, Below.heap_setCell _ _ _ _ hne, Below.heap_setCell _ _ _ _ hne, Below.heap_setCell _ _ _ _ hne, Below.heap_setCell _ _ _ _ hne]
  exact h.2.1 k h1 h2

/-- Behind the words ahead of the numbers: the kind k, the name, the words that are left; V: the world ahead of the step's block. -/
def MidRel (V : World) (k : Int) (cw : Option Script.Step) (s4 : Value) (wr : World) : Prop :=
  ∃ A c n nm ws, s4 = .slice A n c ∧ ws.length = n ∧ n ≤ c ∧ c ≤ maxLen ∧ n ≤ 1000001 ∧ Strs V A ws ∧ (∀ b ∈ ws, b.size ≤ 1000000) ∧ nm.size ≤ 1000000 ∧
    wr.heap[V.heap.size]? = some (.cells (stepCells k nm 0 0 0 0 Script.emptyB none none none 0 0 0) 51 (0, 0)) ∧ cw = candN k nm.data.toList (ws.map (·.data.toList)) ∧ Below V.heap.size V wr

end Go.Proofs.YtjcffbhgjmaicaaDoor
