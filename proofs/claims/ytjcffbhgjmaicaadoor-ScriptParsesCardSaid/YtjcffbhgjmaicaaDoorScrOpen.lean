/-
  Layer 55 (script): a slice of steps that came in: how it reads.
-/
import Derived.Test.YtjcffbhgjmaicaaDoorScrGreat
import Derived.ProofKit
import Derived.OpenShut
import Derived.ChangeOld
import Derived.Deep.SlicePairs
import Derived.SizedLaws
namespace Go.Proofs.YtjcffbhgjmaicaaDoor
open Go.RowKit
open Go.ChangeShapes Go.WideShapes Go.ChangeAt
open Script

theorem addr_add (b off j : Nat) : (⟨b, off, none⟩ : Addr).add j = ⟨b, off + j, none⟩ := by unfold Addr.add; split <;> simp_all

/-- Cells that hold ints, one behind the other. -/
theorem ints_of_cells {w : World} {a : Addr} {n : Nat} (h : ∀ j, j < n → ∃ z : Int, w.cell? (a.add j) = some (.int .i64 z)) : ∃ l : List Int, l.length = n ∧ Ints w (some a) l := by
  obtain ⟨Z, hZ⟩ := Go.Deep.choose_lt h
  refine ⟨(List.range n).map Z, by simp, fun hp => ?_⟩
  have hn : 0 < n := by simpa using hp
  obtain ⟨b, off, spot⟩ := a
  have hs : spot = none := by
    have := World.cell?_spot (hZ 0 hn)
    unfold Addr.add at this
    simpa using this
  subst hs
  refine ⟨b, off, rfl, fun j u hj => ?_⟩
  rw [List.map_map, List.getElem?_map] at hj
  obtain ⟨r, hr, rfl⟩ := Option.map_eq_some_iff.1 hj
  obtain ⟨hrl, e⟩ := List.getElem?_eq_some_iff.1 hr
  simp at hrl e
  subst e
  have := hZ j hrl
  rw [addr_add] at this
  exact this

section
variable {H : Type} {enc : TypeId × Value → H} {w : World}

/-- A slice of ints. -/
theorem open_intsA {a : Option Addr} {len cap fuel : Nat} {t : TypeId} {x : DataW H × List MemPlace} (ht : Tryd.prog.underlying t = some (.slice 3))
    (h : DataW.trod enc Tryd.prog w 0 (fun _ => true) true fuel t [.slice a len cap] = some x) : ∃ l : List Int, l.length = len ∧ Ints w a l ∧ len ≤ cap ∧ cap ≤ maxLen := by
  rcases Go.Deep.open_slice ht h with ⟨hcs, _⟩ | ⟨ad, len', cap', m, n, D, Pl, hcs, _, hl, hm, hmm, _, hx⟩
  · simp only [List.cons.injEq, Value.slice.injEq, and_true] at hcs
    obtain ⟨rfl, rfl, rfl⟩ := hcs
    exact ⟨[], rfl, ints_nil w none, Nat.le_refl _, by simp [maxLen]⟩
  · simp only [List.cons.injEq, Value.slice.injEq, and_true] at hcs
    obtain ⟨rfl, rfl, rfl⟩ := hcs
    have hmm' : m = cap := by simpa using hmm
    subst hmm'
    have c1 : Tryd.prog.cellsOf 3 = 1 := by kernel_rfl
    obtain ⟨l, h1, h2⟩ := ints_of_cells (w := w) (a := ad) (n := len) (fun j hj => by
      obtain ⟨cs', g1, g2⟩ := hx j (by omega)
      rw [c1, Nat.mul_one] at g1
      obtain ⟨z, rfl, _⟩ := DataW.trod_int Tryd.underlying3 g2
      exact ⟨z, cell_of_cells?_one g1⟩)
    exact ⟨l, h1, h2, hl, hm⟩

/-- A slice of rows of three ints. -/
theorem open_rows3 {a : Option Addr} {len cap fuel : Nat} {t e : TypeId} {x : DataW H × List MemPlace} (ht : Tryd.prog.underlying t = some (.slice e)) (he : Tryd.prog.underlying e = some (.array 3 3)) (ce : Tryd.prog.cellsOf e = 3)
    (h : DataW.trod enc Tryd.prog w 0 (fun _ => true) true fuel t [.slice a len cap] = some x) : ∃ l : List Int, l.length = 3 * len ∧ Ints w a l ∧ len ≤ cap ∧ cap ≤ maxLen := by
  rcases Go.Deep.open_slice ht h with ⟨hcs, _⟩ | ⟨ad, len', cap', m, n, D, Pl, hcs, _, hl, hm, hmm, _, hx⟩
  · simp only [List.cons.injEq, Value.slice.injEq, and_true] at hcs
    obtain ⟨rfl, rfl, rfl⟩ := hcs
    exact ⟨[], rfl, ints_nil w none, Nat.le_refl _, by simp [maxLen]⟩
  · simp only [List.cons.injEq, Value.slice.injEq, and_true] at hcs
    obtain ⟨rfl, rfl, rfl⟩ := hcs
    have hmm' : m = cap := by simpa using hmm
    subst hmm'
    have c1 : Tryd.prog.cellsOf 3 = 1 := by kernel_rfl
    obtain ⟨l, h1, h2⟩ := ints_of_cells (w := w) (a := ad) (n := 3 * len) (fun j hj => by
      obtain ⟨cs', g1, g2⟩ := hx (j / 3) (by omega)
      rw [ce] at g1
      obtain ⟨_, hlen, hcell⟩ := World.cells?_some g1
      obtain ⟨xs, k, hk, _, _, hxl, hf⟩ := DataW.trod_array he g2
      have hj3 : j % 3 < 3 := Nat.mod_lt _ (by omega)
      have g := hf (j % 3) hj3
      rw [c1, Nat.mul_one, List.getElem?_eq_getElem (by omega)] at g
      obtain ⟨z, hz, _⟩ := DataW.trod_int Tryd.underlying3 g
      have hcz : cs'[j % 3]? = some (.int .i64 z) := by
        have := congrArg (·[0]?) hz
        simpa [List.getElem?_take, List.getElem?_drop] using this
      have hcc := hcell (j % 3) hj3
      rw [Go.Deep.add_add, show j / 3 * 3 + j % 3 = j from by omega, hcz] at hcc
      exact ⟨z, hcc⟩)
    exact ⟨l, h1, h2, hl, hm⟩

theorem len4 {α : Type} {l : List α} (h : l.length = 4) : ∃ a b c d, l = [a, b, c, d] := by
  match l, h with
  | [a, b, c, d], _ => exact ⟨a, b, c, d, rfl⟩
theorem len2 {α : Type} {l : List α} (h : l.length = 2) : ∃ a b, l = [a, b] := by
  match l, h with
  | [a, b], _ => exact ⟨a, b, rfl⟩
theorem len3 {α : Type} {l : List α} (h : l.length = 3) : ∃ a b c, l = [a, b, c] := by
  match l, h with
  | [a, b, c], _ => exact ⟨a, b, c, rfl⟩
theorem len10 {α : Type} {l : List α} (h : l.length = 10) : ∃ a b c d e f g i j k, l = [a, b, c, d, e, f, g, i, j, k] := by
  match l, h with
  | [a, b, c, d, e, f, g, i, j, k], _ => exact ⟨a, b, c, d, e, f, g, i, j, k, rfl⟩

/-- A slice that is read is one cell that holds a slice. -/
theorem slice_cell {t e : TypeId} {fuel : Nat} {v : Value} {x : DataW H × List MemPlace} (ht : Tryd.prog.underlying t = some (.slice e)) (h : DataW.trod enc Tryd.prog w 0 (fun _ => true) true fuel t [v] = some x) : ∃ a len cap, v = .slice a len cap := by
  rcases Go.Deep.open_slice ht h with ⟨hcs, _⟩ | ⟨ad, len', cap', m, n, D, Pl, hcs, _⟩
  · simp only [List.cons.injEq, and_true] at hcs
    exact ⟨_, _, _, hcs⟩
  · simp only [List.cons.injEq, and_true] at hcs
    exact ⟨_, _, _, hcs⟩

/-- The four numbers of a step. -/
theorem open_four {cs : List Value} {fuel : Nat} {x : DataW H × List MemPlace} (h : DataW.trod enc Tryd.prog w 0 (fun _ => true) true fuel 49 cs = some x) :
    ∃ n0 n1 n2 n3 : Int, cs = [.int .i64 n0, .int .i64 n1, .int .i64 n2, .int .i64 n3] := by
  obtain ⟨xs, m, _, _, hl, hxl, hf⟩ := DataW.trod_array Tryd.underlying49 h
  have c1 : Tryd.prog.cellsOf 3 = 1 := by kernel_rfl
  have c4 : Tryd.prog.cellsOf 49 = 4 := by kernel_rfl
  rw [c4] at hl
  obtain ⟨v0, v1, v2, v3, rfl⟩ := len4 hl
  obtain ⟨y0, y1, y2, y3, rfl⟩ := len4 hxl
  have g0 := hf 0 (by omega)
  have g1 := hf 1 (by omega)
  have g2 := hf 2 (by omega)
  have g3 := hf 3 (by omega)
  simp only [c1, Nat.mul_one] at g0 g1 g2 g3
  obtain ⟨n0, e0, _⟩ := DataW.trod_int Tryd.underlying3 g0
  obtain ⟨n1, e1, _⟩ := DataW.trod_int Tryd.underlying3 g1
  obtain ⟨n2, e2, _⟩ := DataW.trod_int Tryd.underlying3 g2
  obtain ⟨n3, e3, _⟩ := DataW.trod_int Tryd.underlying3 g3
  simp at e0 e1 e2 e3
  exact ⟨n0, n1, n2, n3, by rw [e0, e1, e2, e3]⟩

set_option maxRecDepth 100000 in
/-- The cells of a step that came in. -/
theorem open_step {cs : List Value} {fuel : Nat} {x : DataW H × List MemPlace} (h : DataW.trod enc Tryd.prog w 0 (fun _ => true) true fuel 51 cs = some x) :
    ∃ (s : Script.Step) (ca : Array Value), cs = ca.toList ∧ StepV0 w s ca := by
  obtain ⟨xs, m, _, _, hl, hxl, hf⟩ := DataW.trod_struct Tryd.underlying51 h
  have cS : Tryd.prog.cellsOf 51 = 10 := by kernel_rfl
  have ci : Tryd.prog.cellsOf 3 = 1 := by kernel_rfl
  have cs1 : Tryd.prog.cellsOf 9 = 1 := by kernel_rfl
  have c4 : Tryd.prog.cellsOf 49 = 4 := by kernel_rfl
  have cB : Tryd.prog.cellsOf 48 = 4 := by kernel_rfl
  have cU : Tryd.prog.cellsOf 44 = 2 := by kernel_rfl
  have cT : Tryd.prog.cellsOf 42 = 1 := by kernel_rfl
  have cP : Tryd.prog.cellsOf 45 = 1 := by kernel_rfl
  have cK : Tryd.prog.cellsOf 46 = 1 := by kernel_rfl
  have eT : Tryd.prog.cellsOf 89 = 3 := by kernel_rfl
  have eP : Tryd.prog.cellsOf 53 = 3 := by kernel_rfl
  rw [cS] at hl
  obtain ⟨v0, v1, v2, v3, v4, v5, v6, v7, v8, v9, rfl⟩ := len10 hl
  obtain ⟨y0, y1, y2, y3, rfl⟩ := len4 hxl
  have g0 := hf 0 _ rfl
  have g1 := hf 1 _ rfl
  have g2 := hf 2 _ rfl
  have g3 := hf 3 _ rfl
  simp [ci, cs1, c4, cB] at g0 g1 g2 g3
  obtain ⟨k, e0, _⟩ := DataW.trod_int Tryd.underlying3 g0
  obtain ⟨nm, e1, _, hnm⟩ := DataW.trod_string Tryd.underlying9 g1
  obtain ⟨n0, n1, n2, n3, e2⟩ := open_four g2
  simp at e0 e1 e2
  obtain ⟨rfl, rfl, rfl, rfl⟩ := e2
  subst e0 e1
  obtain ⟨ys, m2, _, _, _, hyl, hf2⟩ := DataW.trod_struct Tryd.underlying48 g3
  obtain ⟨z0, z1, z2, rfl⟩ := len3 hyl
  have b0 := hf2 0 _ rfl
  have b1 := hf2 1 _ rfl
  have b2 := hf2 2 _ rfl
  simp [cU, cP, cK] at b0 b1 b2
  obtain ⟨us, m3, _, _, _, hul, hf3⟩ := DataW.trod_struct Tryd.underlying44 b0
  obtain ⟨u0, u1, rfl⟩ := len2 hul
  have d0 := hf3 0 _ rfl
  have d1 := hf3 1 _ rfl
  simp [ci, cT] at d0 d1
  obtain ⟨sn, e6, _⟩ := DataW.trod_int Tryd.underlying3 d0
  simp at e6
  subst e6
  obtain ⟨ta, tn, tc, rfl⟩ := slice_cell Tryd.underlying42 d1
  obtain ⟨pa, pn, pc, rfl⟩ := slice_cell Tryd.underlying45 b1
  obtain ⟨ka, kn, kc, rfl⟩ := slice_cell Tryd.underlying46 b2
  obtain ⟨t, ht1, ht2, ht3, ht4⟩ := open_rows3 Tryd.underlying42 Tryd.underlying89 eT d1
  obtain ⟨p, hp1, hp2, hp3, hp4⟩ := open_rows3 Tryd.underlying45 Tryd.underlying53 eP b1
  obtain ⟨kk, hk1, hk2, hk3, hk4⟩ := open_intsA Tryd.underlying46 b2
  subst hk1
  refine ⟨{ kind := k, name := nm.data.toList, n := [n0, n1, n2, n3], body := { sn := sn, pn := pn, p := p, tn := tn, t := t, k := kk } }, stepCells k nm n0 n1 n2 n3 { sn := sn, pn := pn, p := p, tn := tn, t := t, k := kk } ta pa ka tc pc kc, rfl, ?_⟩
  exact ⟨nm, n0, n1, n2, n3, ta, pa, ka, tc, pc, kc, rfl, rfl, rfl, ⟨ht2, hp2, hk2, ht1, hp1⟩, by show pn ≤ _; omega, by show tn ≤ _; omega, by show kk.length ≤ _; omega, hnm⟩

/-- An argument of type []script.Step. -/
theorem open_steps {a : Option Addr} {len cap fuel : Nat} {x : DataW H × List MemPlace}
    (h : DataW.trod enc Tryd.prog w 0 (fun _ => true) true fuel 23 [.slice a len cap] = some x) :
    ∃ l : List Script.Step, l.length = len ∧ StepsAt0 w a l ∧ len ≤ cap ∧ cap ≤ maxLen := by
  rcases Go.Deep.open_slice Tryd.underlying23 h with ⟨hcs, _⟩ | ⟨ad, len', cap', m, n, D, Pl, hcs, _, hl, hm, hmm, _, hx⟩
  · simp only [List.cons.injEq, Value.slice.injEq, and_true] at hcs
    obtain ⟨rfl, rfl, rfl⟩ := hcs
    exact ⟨[], rfl, fun i s hi => by simp at hi, Nat.le_refl _, by simp [maxLen]⟩
  · simp only [List.cons.injEq, Value.slice.injEq, and_true] at hcs
    obtain ⟨rfl, rfl, rfl⟩ := hcs
    have hmm' : m = cap := by simpa using hmm
    subst hmm'
    have cS : Tryd.prog.cellsOf 51 = 10 := by kernel_rfl
    have each : ∀ i, i < len → ∃ q : Script.Step × Array Value, StepV0 w q.1 q.2 ∧ q.2.size = 10 ∧ ∀ j, j < 10 → w.cell? (ad.add (i * 10 + j)) = q.2[j]? := by
      intro i hi
      obtain ⟨cs', g1, g2⟩ := hx i (by omega)
      rw [cS] at g1
      obtain ⟨_, hlen, hcell⟩ := World.cells?_some g1
      obtain ⟨s, ca, rfl, hv⟩ := open_step g2
      refine ⟨(s, ca), hv, by simpa using hlen, fun j hj => ?_⟩
      have := hcell j hj
      rw [Go.Deep.add_add] at this
      rw [this]
      simp
    have inst : Inhabited (Script.Step × Array Value) := ⟨(⟨0, [], [], Script.emptyB⟩, #[])⟩
    obtain ⟨q, hq⟩ := Go.Deep.choose_lt each
    refine ⟨(List.range len).map fun i => (q i).1, by simp, ?_, hl, hm⟩
    intro i s hi
    rw [List.getElem?_map] at hi
    obtain ⟨r, hri, rfl⟩ := Option.map_eq_some_iff.1 hi
    obtain ⟨hil, e⟩ := List.getElem?_eq_some_iff.1 hri
    simp at hil e
    subst e
    obtain ⟨hv, hsz, hc⟩ := hq i hil
    obtain ⟨b, off, spot⟩ := ad
    have hs : spot = none := by
      obtain ⟨-, hsz0, hc0⟩ := hq 0 (by omega)
      have h0 := hc0 0 (by omega)
      rw [Array.getElem?_eq_getElem (by omega)] at h0
      have := World.cell?_spot h0
      unfold Addr.add at this
      simpa using this
    subst hs
    refine ⟨b, off, (q i).2, rfl, hv, fun j u hj => ?_⟩
    have hj10 : j < 10 := by
      have := (Array.getElem?_eq_some_iff.1 hj).1
      omega
    have := hc j hj10
    rw [addr_add, hj] at this
    exact this

end
end Go.Proofs.YtjcffbhgjmaicaaDoor
