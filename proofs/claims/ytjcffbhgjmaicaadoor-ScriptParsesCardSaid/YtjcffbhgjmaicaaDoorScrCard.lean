/-
  Layer 55 (script): what the rows' lists give the walks, and a world in which all listed variables hold what they should.
-/
import Derived.Test.YtjcffbhgjmaicaaDoorRows
import Derived.Test.YtjcffbhgjmaicaaDoorScrLine
import Derived.WalkKit
import Derived.ProofKit
import Derived.OpenShut
import Derived.Deep.DeepHandedRow
import Derived.Deep.DeepWitnessRowRef
import Derived.Lib.LaidTab
import Derived.Stop.LaidErr
namespace Go.Proofs.YtjcffbhgjmaicaaDoor
open Go.ChangeShapes Go.WideShapes Go.ChangeAt Go.RowKit

theorem own : ownKnob Tryd.prog.godebug = none := by kernel_rfl
theorem laidOut : laidOutB Tryd.prog = true := by kernel_rfl

/-- An integer variable holds SOME integer. -/
theorem cell_of_row {w : World} {g : Nat} {t : TypeId} {cs : Array Value} {fr : Nat × Nat} (hh : w.heap[g]? = some (.cells cs t fr)) (h1 : 0 < cs.size) : w.cell? ⟨g, 0, none⟩ = some cs[0] := by simp [World.cell?, hh, h1]

set_option maxRecDepth 100000 in
theorem int_of_shape {w : World} {g : Nat} {t : TypeId} {zero : Array Value} (h : w.ShapedOpen Tryd.prog) (hg : g < Tryd.prog.globals.size)
    (h0 : ((begin Tryd.prog (fun _ _ => 0) default).world.heap[g]?).bind Obj.row? = some (zero, t)) (hz : zero.size = 1)
    (hb : Tryd.prog.buildable t = true) (hc : Tryd.prog.cellTypes Tryd.prog.depth t = some [t]) (hu : Tryd.prog.underlying t = some (.int .i64)) : ∃ m, w.cell? ⟨g, 0, none⟩ = some (.int .i64 m) := by
  obtain ⟨cs, hh, hs, hr⟩ := h.1 g zero t hg h0
  obtain ⟨ts, hts, _, hall⟩ := hr hb
  rw [hc] at hts
  cases hts
  have h1 : 0 < cs.size := by omega
  obtain ⟨u, hu', hok⟩ := hall 0 (cs[0]'h1) (Array.getElem?_eq_getElem h1)
  have : u = t := by simpa using hu'.symm
  subst this
  have hcell := cell_of_row hh h1
  rw [hcell]
  unfold Cell.ok at hok
  rw [hu] at hok
  generalize (cs[0]'h1) = v at hok ⊢
  cases v with
  | int k n =>
    have hk : k = .i64 := hok.1
    subst hk
    exact ⟨n, rfl⟩
  | _ => exact absurd hok id

theorem gMax : Tryd.prog.globalNamed "internal/bytealg.MaxLen" = some 0 := by kernel_rfl
theorem gSyn : Tryd.prog.globalNamed "strconv.ErrSyntax" = some 1 := by kernel_rfl
theorem gRng : Tryd.prog.globalNamed "strconv.ErrRange" = some 2 := by kernel_rfl
theorem gPow : Tryd.prog.globalNamed "internal/strconv.uint64pow10" = some 3 := by kernel_rfl
theorem tSyn : (Tryd.prog.globals[1]?).map (·.type) = some 68 := by kernel_rfl
theorem tRng : (Tryd.prog.globals[2]?).map (·.type) = some 68 := by kernel_rfl
theorem tPow : (Tryd.prog.globals[3]?).map (·.type) = some 146 := by kernel_rfl
theorem cellsES : Tryd.prog.cellsOf 144 = 1 := by kernel_rfl
theorem cellsStr : Tryd.prog.cellsOf 9 = 1 := by kernel_rfl
theorem cellsU64 : Tryd.prog.cellsOf 129 = 1 := by kernel_rfl
theorem cellsPow : Tryd.prog.cellsOf 146 = 20 := by kernel_rfl
theorem starES : "*" ++ "errors.errorString" = "*errors.errorString" := by decide
theorem rowES (u : TypeId) (h : Tryd.prog.typeName? 3 u = some "*errors.errorString") : u = 142 :=
  typeName_ptr_named (nm := "errors.errorString") (by rw [starES]; kernel_rfl) (by kernel_rfl) (by decide) u (by rw [starES]; exact h)

/-- What all rows of this layer list. -/
def laidList : List (String × DataW Unit) := Rows.scriptAgainRow.laid

theorem ready_of {W : World} (h : laidMet Tryd.prog laidList W) (hs : W.ShapedOpen Tryd.prog) : Ready W := by
  have h2 := h.tail.tail
  have h4 := h2.tail.tail
  have h5 := h4.tail
  refine ⟨?_, ?_, ?_, ?_⟩
  · exact int_of_shape (zero := #[.int .i64 0]) hs (of_decide_eq_true (by kernel_rfl)) (by kernel_rfl) rfl (by kernel_rfl) (by kernel_rfl) Tryd.underlying3
  · obtain ⟨a, s, hv, -, -, -⟩ := laid_sentinel h5 gSyn tSyn Tryd.underlying68 rowES Tryd.underlying142 Tryd.underlying144 rfl rfl Tryd.underlying9 cellsES cellsStr
    exact ⟨_, _, by simpa using World.var?_cell gSyn hv 0⟩
  · obtain ⟨a, s, hv, -, -, -⟩ := laid_sentinel h4 gRng tRng Tryd.underlying68 rowES Tryd.underlying142 Tryd.underlying144 rfl rfl Tryd.underlying9 cellsES cellsStr
    exact ⟨_, _, by simpa using World.var?_cell gRng hv 0⟩
  · exact Lib.tabIs_of_head gPow tPow Tryd.underlying146 Tryd.underlying129 cellsU64 cellsPow h2

/-! ### A world for the witness -/

def litV : DataW Unit → List Value
  | .lit (.int k z) => [.int k z]
  | _ => []
def aggV : DataW Unit → List Value
  | .agg l => l.flatMap litV
  | _ => []
def aggV2 : DataW Unit → List Value
  | .agg l => l.flatMap aggV
  | _ => []
def put (h : Array Obj) (g : Nat) (cs : List Value) : Array Obj := h.modify g fun
  | .cells _ t frozen => .cells cs.toArray t frozen
  | o => o

noncomputable def laidWorld (os : Os) : World :=
  let w0 := World.holding Tryd.prog os ⟨#[.cells #[.string ⟨#[118, 97, 108, 117, 101, 32, 111, 117, 116, 32, 111, 102, 32, 114, 97, 110, 103, 101]⟩] 144, .cells #[.string ⟨#[105, 110, 118, 97, 108, 105, 100, 32, 115, 121, 110, 116, 97, 120]⟩] 144], #[], []⟩
  let n := (World.settled Tryd.prog os).heap.size
  let h1 := put w0.heap 1 [.iface 142 (.pointer (some ⟨n + 1, 0, none⟩))]
  let h2 := put h1 2 [.iface 142 (.pointer (some ⟨n, 0, none⟩))]
  let h3 := put h2 3 (aggV Rows.laid_internal_strconv_uint64pow10)
  let h4 := put h3 4 (aggV Rows.laid_unicode_utf8_first)
  let h5 := put h4 5 (aggV2 Rows.laid_unicode_utf8_acceptRanges)
  let h6 := put h5 6 (aggV Rows.laid_math_bits_deBruijn32tab)
  let h7 := put h6 7 (aggV Rows.laid_math_bits_deBruijn64tab)
  { w0 with heap := h7 }

set_option maxRecDepth 100000 in
theorem laid_met (os : Os) (args : Array Value) : laidMet Tryd.prog laidList ((laidWorld os).forCall (fun _ _ => 0) ⟨#[], args, []⟩).memory :=
  laidMet_of_run' 8 (by kernel_rfl) (by kernel_rfl)

end Go.Proofs.YtjcffbhgjmaicaaDoor
