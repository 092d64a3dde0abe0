/-
  Layer 55 (script), the document's answer: what Read leaves; plain parts.
-/
import Derived.Test.YtjcffbhgjmaicaaDoorScrReadR
import Derived.Test.YtjcffbhgjmaicaaDoorScrRefD
import Derived.Test.YtjcffbhgjmaicaaDoorScrReadE
namespace Go.Proofs.YtjcffbhgjmaicaaDoor
open Go.RowKit
open Script
set_option linter.unusedVariables false

/-- The kind that the first j - 1 words tell. -/
def kindTo (w : List UInt8) (j : Nat) : Int := if 1 ≤ kindOf w ∧ kindOf w < (j : Int) then kindOf w else 0

theorem kindTo_one (w : List UInt8) : kindTo w 1 = 0 := by unfold kindTo; rw [if_neg (by omega)]
theorem kindTo_end (w : List UInt8) : kindTo w 14 = kindOf w := by
  have := kindOf_range w
  unfold kindTo
  split <;> omega

theorem wordOf_iff {w : List UInt8} {j : Nat} (h1 : 1 ≤ j) (h2 : j ≤ 13) : wordOf (j : Int) = w ↔ kindOf w = j := by
  constructor
  · intro h
    unfold wordOf at h
    cases hs : Script.shape (j : Int) with
    | none =>
      unfold Script.shape at hs
      rw [if_pos (by omega), List.getElem?_eq_none_iff] at hs
      have : Script.shapes.length = 13 := rfl
      omega
    | some x =>
      rw [hs] at h
      obtain ⟨a, m⟩ := x
      simp only at h
      subst h
      exact kindOf_of hs
  · intro h
    have hs := kindOf_shape (w := w) (by omega)
    rw [h] at hs
    unfold wordOf
    rw [hs]

theorem kindTo_hit {w : List UInt8} {j : Nat} (h1 : 1 ≤ j) (h2 : j ≤ 13) (h : wordOf (j : Int) = w) : kindTo w (j + 1) = (j : Int) := by
  have := (wordOf_iff h1 h2).1 h
  unfold kindTo
  rw [if_pos (by omega), this]
theorem kindTo_miss {w : List UInt8} {j : Nat} (h1 : 1 ≤ j) (h2 : j ≤ 13) (h : wordOf (j : Int) ≠ w) : kindTo w (j + 1) = kindTo w j := by
  have : kindOf w ≠ j := fun e => h ((wordOf_iff h1 h2).2 e)
  unfold kindTo
  by_cases h3 : 1 ≤ kindOf w ∧ kindOf w < (j : Int)
  · rw [if_pos h3, if_pos (by omega)]
  · rw [if_neg h3, if_neg (by omega)]

/-- What reading a line leaves, for the document. -/
def RReadRes (w w' : World) (r : Option Script.Step) (e : Ending) : Prop :=
  match r with
  | none => ∃ k nm n0 n1 n2 n3 b ta pa ka tc pc kc, e = .returned (.tuple #[.agg (stepCells k nm n0 n1 n2 n3 b ta pa ka tc pc kc), .bool false])
  | some x => ∃ cs, e = .returned (.tuple #[.agg cs, .bool true]) ∧ ∀ V : World, (∀ k, w.heap.size ≤ k → k < w'.heap.size → V.heap[k]? = w'.heap[k]?) → StepV V x cs

/-- Behind the words ahead of the numbers: the kind, the name, where the numbers begin; V: the world ahead of the step's block. -/
def RMid (V : World) (W : List (List UInt8)) (K : Int) (s11 : Value) (wr : World) : Prop :=
  ∃ (f : Nat) (nm : List UInt8), s11 = .int .i64 (f : Int) ∧ 1 ≤ f ∧ f ≤ W.length ∧ (nm = [] ∨ nm ∈ W) ∧
    wr.heap[V.heap.size]? = some (.cells (stepCells K ⟨⟨nm⟩⟩ 0 0 0 0 Script.emptyB none none none 0 0 0) 59 (0, 0)) ∧
    candR W = (if K = 0 then none else candNR K nm (W.drop f)) ∧ Below V.heap.size V wr

/-- The step, before it is looked at. -/
def RFin (V : World) (cw : Option Script.Step) (q : Nat) (wr : World) : Prop :=
  ∃ x cs, cw = some x ∧ wr.heap[V.heap.size]? = some (.cells cs 59 (0, 0)) ∧ (∀ U : World, (∀ k, V.heap.size ≤ k → k < wr.heap.size → U.heap[k]? = wr.heap[k]?) → StepV U x cs) ∧ 3 * x.body.pn + 3 * x.body.tn + x.body.k.length ≤ q ∧ x.name.length ≤ q ∧ Below V.heap.size V wr

/-- While the numbers are read. -/
def RNum (wc : World) (W : List (List UInt8)) (f : Nat) (v i : Value) (wr : World) : Prop :=
  ∃ (j : Nat) (L : List Int), f ≤ j ∧ j ≤ W.length ∧ i = .int .i64 (j : Int) ∧ numsR ((W.drop f).take (j - f)) = some L ∧ OwnI wr wc.heap.size v L ∧ Below wc.heap.size wc wr

theorem numsR_none {w : List UInt8} : ∀ {ws : List (List UInt8)}, w ∈ ws → numR w = none → numsR ws = none
  | [], h, _ => by cases h
  | v :: ws, h, hn => by
    rcases List.mem_cons.1 h with rfl | h
    · simp only [numsR, hn]
    · simp only [numsR, numsR_none h hn]
      cases numR v <;> rfl

theorem numsR_bounds : ∀ {ws : List (List UInt8)} {l : List Int}, numsR ws = some l → ∀ x ∈ l, -10000000009 ≤ x ∧ x ≤ 10000000009
  | [], l, h, x, hx => by simp [numsR] at h; subst h; cases hx
  | w :: ws, l, h, x, hx => by
    simp only [numsR] at h
    cases hw : numR w with
    | none => rw [hw] at h; cases h
    | some v =>
      cases ha : numsR ws with
      | none => rw [hw, ha] at h; cases h
      | some m =>
        rw [hw, ha] at h
        injection h with h
        subst h
        rcases List.mem_cons.1 hx with rfl | hx
        · exact numR_small hw
        · exact numsR_bounds ha x hx

theorem pad_step {L : List Int} {j : Nat} {y n0 n1 n2 n3 : Int} (hy : L[j]? = some y) (hj : j < 4) (h : Script.pad (L.take j) = [n0, n1, n2, n3]) :
    ∃ m0 m1 m2 m3, Script.pad (L.take (j + 1)) = [m0, m1, m2, m3] ∧ ((j = 0 ∧ m0 = y ∧ m1 = n1 ∧ m2 = n2 ∧ m3 = n3) ∨ (j = 1 ∧ m0 = n0 ∧ m1 = y ∧ m2 = n2 ∧ m3 = n3) ∨ (j = 2 ∧ m0 = n0 ∧ m1 = n1 ∧ m2 = y ∧ m3 = n3) ∨ (j = 3 ∧ m0 = n0 ∧ m1 = n1 ∧ m2 = n2 ∧ m3 = y)) := by
  have hl : j ≤ L.length := Nat.le_of_lt (List.getElem?_eq_some_iff.1 hy).1
  have hn : L.take (j + 1) = L.take j ++ [y] := take_snoc hy
  have hlen : (L.take j).length = j := by rw [List.length_take]; omega
  rw [hn]
  generalize L.take j = M at *
  match j, M, hlen, hj with
  | 0, [], _, _ =>
    have h : ([0, 0, 0, 0] : List Int) = [n0, n1, n2, n3] := h
    cases h
    exact ⟨_, _, _, _, rfl, .inl ⟨rfl, rfl, rfl, rfl, rfl⟩⟩
  | 1, [a], _, _ =>
    have h : ([a, 0, 0, 0] : List Int) = [n0, n1, n2, n3] := h
    cases h
    exact ⟨_, _, _, _, rfl, .inr (.inl ⟨rfl, rfl, rfl, rfl, rfl⟩)⟩
  | 2, [a, b], _, _ =>
    have h : ([a, b, 0, 0] : List Int) = [n0, n1, n2, n3] := h
    cases h
    exact ⟨_, _, _, _, rfl, .inr (.inr (.inl ⟨rfl, rfl, rfl, rfl, rfl⟩))⟩
  | 3, [a, b, c], _, _ =>
    have h : ([a, b, c, 0] : List Int) = [n0, n1, n2, n3] := h
    cases h
    exact ⟨_, _, _, _, rfl, .inr (.inr (.inr ⟨rfl, rfl, rfl, rfl, rfl⟩))⟩

/-- Where block A alone may have been written, and what is new. -/
def Aside (A : Nat) (W V : World) : Prop := ∀ k, A < k → k < W.heap.size → V.heap[k]? = W.heap[k]?

theorem line_le {s : Script.Step} (hr : Script.right s = true) (hw : Script.Wf s) {q : Nat} (h1 : 3 * s.body.pn + 3 * s.body.tn + s.body.k.length ≤ q) (h2 : s.name.length ≤ q) : (Script.line s).length ≤ 13 * q + 200 := by
  obtain ⟨w, m, hs, -, -, -⟩ := right_shape hr
  have h5 := behind_length (nums_small hr m)
  have h6 := words_short _ (shape_mem hs).1
  have h4 : (Script.nums s m).length ≤ 7 + q := by
    unfold Script.nums
    rw [List.length_append, List.length_take]
    have e1 := hw.n
    have e2 := hw.p
    have e3 := hw.t
    by_cases hk : s.kind = 1
    · rw [if_pos hk]
      unfold Script.numbers
      simp only [List.length_cons, List.length_append]
      omega
    · rw [if_neg hk, List.length_nil]
      omega
  rw [line_behind hs, List.length_append, List.length_append]
  simp only at h6
  by_cases hk : s.kind = 1
  · rw [if_pos hk, List.length_cons]
    omega
  · rw [if_neg hk, List.length_nil]
    omega

theorem ints_new3d (W : World) (e : TypeId) (x y z : Int) : Ints (W.alloc (.cells #[.int .i64 x, .int .i64 y, .int .i64 z] e)).drew (some ⟨W.heap.size, 0, none⟩) [x, y, z] := ints_new3 W e x y z

theorem tail_intsI (a : Option Addr) (len cap : Nat) (hcap : len ≤ cap) (hcap2 : cap ≤ maxLen) (m : Nat) (hm : m ≤ len) (mI : Int) (e : mI = (m : Int)) :
    ∃ A, (∀ W : World, (Instr.slice 46 (.slice a len cap) (some (.int .i64 mI)) none none).run Tryd.prog W = .ok (.slice A (len - m) (cap - m)) W) ∧ ∀ (W : World) (l : List Int), l.length = len → Ints W a l → Ints W A (l.drop m) := by
  subst e
  exact tail_ints a len cap hcap hcap2 m hm

theorem ints_take {W : World} {a : Option Addr} {l : List Int} (h : Ints W a l) (m : Nat) : Ints W a (l.take m) := by
  rcases Nat.eq_zero_or_pos l.length with h0 | h0
  · rw [List.eq_nil_of_length_eq_zero h0, List.take_nil]
    exact ints_nil W a
  · obtain ⟨b, off, rfl, hc⟩ := h.at_ h0
    refine fun _ => ⟨b, off, rfl, fun j u hj => ?_⟩
    rw [List.getElem?_map] at hj
    obtain ⟨y, hy, rfl⟩ := Option.map_eq_some_iff.1 hj
    rw [List.getElem?_take] at hy
    split at hy
    · exact hc j y hy
    · cases hy

theorem cut_intsI (a : Option Addr) (len cap : Nat) (hcap : len ≤ cap) (hcap2 : cap ≤ maxLen) (lo hi : Nat) (h1 : lo ≤ hi) (h2 : hi ≤ len) (loI hiI : Int) (e1 : loI = (lo : Int)) (e2 : hiI = (hi : Int)) :
    ∃ A, (∀ W : World, (Instr.slice 46 (.slice a len cap) (some (.int .i64 loI)) (some (.int .i64 hiI)) none).run Tryd.prog W = .ok (.slice A (hi - lo) (cap - lo)) W) ∧ ∀ (W : World) (l : List Int), l.length = len → Ints W a l → Ints W A ((l.drop lo).take (hi - lo)) := by
  obtain ⟨i0, hi0, hz0, hz1, hz2⟩ := info_parts infoInt
  subst e1 e2
  unfold maxLen at hcap2
  refine ⟨if cap = lo then a else a.map (·.add lo), fun W => ?_, fun W l hl ht => ints_take ?_ _⟩
  · simp [Instr.slice, run_underlying Tryd.underlying46, Instr.sliceBounds, Instr.sliceBound, asIntOf, go_sem, hi0, hz1, sizeOf, typeInfo]
    rw [if_pos (by omega), if_pos h1]
  · by_cases hc : cap = lo
    · rw [List.drop_of_length_le (by omega)]
      exact ints_nil W _
    · rw [if_neg hc]
      rcases Nat.eq_zero_or_pos (l.drop lo).length with h0 | h0
      · rw [List.eq_nil_of_length_eq_zero h0]
        exact ints_nil W _
      · obtain ⟨b, off, rfl, _⟩ := ht.at_ (by simp at h0; omega)
        have hadd : (⟨b, off, none⟩ : Addr).add lo = ⟨b, off + lo, none⟩ := by unfold Addr.add; split <;> simp_all
        simp only [Option.map_some, hadd]
        exact ints_drop ht lo


end Go.Proofs.YtjcffbhgjmaicaaDoor
