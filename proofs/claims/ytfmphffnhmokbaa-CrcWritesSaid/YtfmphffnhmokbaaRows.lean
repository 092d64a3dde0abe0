/-
  No cell of these rows narrows 'for every input' (looked for: loops, veiled, ifaces, maps, wideKeys, modest, calm, conditions, laid).
  DERIVED. THE GIVEN ROWS OF THIS SEAT. 8 by the template 'for every input the law returns true; each argument reads behind the call as it read before'; 0 by the template 'total and deterministic' (their statements: YtfmphffnhmokbaaTotals.lean).
  GIVEN WITH THE SEED: the statements are not yours to turn. If you find one false, say at which input.
  Laid BY PROGRAM, IN A SANDBOX (cutbox-rows.mjs): the forced cells as the released guide's own fill.sh prints them over the translation 99af821212e6dc73… (all of the seat's roots in one cut). By AI agents, Wed Nov 11 2026. No macro, syntax, notation, axiom, sorry.
-/
import Derived.Test.YtfmphffnhmokbaaChecked
import GoSem.Claim
import GoSem.ClaimJoined
import GoSem.ClaimMapViews
import Derived.JoinedTies
import Derived.KernelRfl
namespace Go.Proofs.Ytfmphffnhmokbaa
/- THE CELL 'sum', in the pinned program and in every row, IS THE sha256 OF THE DUMP (.gsa) THAT YtfmphffnhmokbaaProg.lean LOADS. Nothing in Lean hashes anything: it is a label: what it is worth is what the hold of that sum in a sandbox is worth. -/
noncomputable def Try.pinned : Pinned := { name := "ytfmphffnhmokbaa", sum := "99af821212e6dc739acd818b33b1b678dd958b23a4e872276ef6940725af3898", checked := Try.checked }
namespace Rows
def none {H : Type} : Left H := { results := [], args := [] }

/-- 'gypsumlaw06.CrcSums': WHATEVER THE INPUT: true; the input reads as it did. -/
def crcSumsSpec : ChangeSpec := { name := "crcSums", fn := fun _ => fun
  | [d] => { results := [.lit (.bool true)], args := [d] }
  | _ => none }
def crcSumsRow : OpenClaim := { program := "ytfmphffnhmokbaa", sum := "99af821212e6dc739acd818b33b1b678dd958b23a4e872276ef6940725af3898", func := "gypsum/gypsumlaw06.CrcSums", spec := "crcSums", apart := false }
def CrcSumsSaid : Prop := crcSumsRow.holds Try.pinned (OpenSpec.ofChange crcSumsSpec)

/-- ITS FALSE NEIGHBOUR: 'it returns false'. Refute it at one input. -/
def crcSumsWrong : ChangeSpec := { name := "crcSums", fn := fun _ => fun
  | [d] => { results := [.lit (.bool false)], args := [d] }
  | _ => none }
def CrcSumsWrongFalsely : Prop := crcSumsRow.holds Try.pinned (OpenSpec.ofChange crcSumsWrong)

/-- 'gypsumlaw06.CrcUpdates': WHATEVER THE INPUT: true; the input reads as it did. -/
def crcUpdatesSpec : ChangeSpec := { name := "crcUpdates", fn := fun _ => fun
  | [d1, d2, d3] => { results := [.lit (.bool true)], args := [d1, d2, d3] }
  | _ => none }
def crcUpdatesRow : OpenClaim := { program := "ytfmphffnhmokbaa", sum := "99af821212e6dc739acd818b33b1b678dd958b23a4e872276ef6940725af3898", func := "gypsum/gypsumlaw06.CrcUpdates", spec := "crcUpdates", apart := false }
def CrcUpdatesSaid : Prop := crcUpdatesRow.holds Try.pinned (OpenSpec.ofChange crcUpdatesSpec)

/-- ITS FALSE NEIGHBOUR: 'it returns false'. Refute it at one input. -/
def crcUpdatesWrong : ChangeSpec := { name := "crcUpdates", fn := fun _ => fun
  | [d1, d2, d3] => { results := [.lit (.bool false)], args := [d1, d2, d3] }
  | _ => none }
def CrcUpdatesWrongFalsely : Prop := crcUpdatesRow.holds Try.pinned (OpenSpec.ofChange crcUpdatesWrong)

/-- 'gypsumlaw06.CrcBursts': WHATEVER THE INPUT: true; the input reads as it did. -/
def crcBurstsSpec : ChangeSpec := { name := "crcBursts", fn := fun _ => fun
  | [d1, d2, d3] => { results := [.lit (.bool true)], args := [d1, d2, d3] }
  | _ => none }
def crcBurstsRow : OpenClaim := { program := "ytfmphffnhmokbaa", sum := "99af821212e6dc739acd818b33b1b678dd958b23a4e872276ef6940725af3898", func := "gypsum/gypsumlaw06.CrcBursts", spec := "crcBursts", apart := false }
def CrcBurstsSaid : Prop := crcBurstsRow.holds Try.pinned (OpenSpec.ofChange crcBurstsSpec)

/-- ITS FALSE NEIGHBOUR: 'it returns false'. Refute it at one input. -/
def crcBurstsWrong : ChangeSpec := { name := "crcBursts", fn := fun _ => fun
  | [d1, d2, d3] => { results := [.lit (.bool false)], args := [d1, d2, d3] }
  | _ => none }
def CrcBurstsWrongFalsely : Prop := crcBurstsRow.holds Try.pinned (OpenSpec.ofChange crcBurstsWrong)

/-- 'gypsumlaw06.CrcTogether': WHATEVER THE INPUT: true; the input reads as it did. -/
def crcTogetherSpec : ChangeSpec := { name := "crcTogether", fn := fun _ => fun
  | [d1, d2] => { results := [.lit (.bool true)], args := [d1, d2] }
  | _ => none }
def crcTogetherRow : OpenClaim := { program := "ytfmphffnhmokbaa", sum := "99af821212e6dc739acd818b33b1b678dd958b23a4e872276ef6940725af3898", func := "gypsum/gypsumlaw06.CrcTogether", spec := "crcTogether", apart := false }
def CrcTogetherSaid : Prop := crcTogetherRow.holds Try.pinned (OpenSpec.ofChange crcTogetherSpec)

/-- ITS FALSE NEIGHBOUR: 'it returns false'. Refute it at one input. -/
def crcTogetherWrong : ChangeSpec := { name := "crcTogether", fn := fun _ => fun
  | [d1, d2] => { results := [.lit (.bool false)], args := [d1, d2] }
  | _ => none }
def CrcTogetherWrongFalsely : Prop := crcTogetherRow.holds Try.pinned (OpenSpec.ofChange crcTogetherWrong)

/-- 'gypsumlaw06.CrcRest': WHATEVER THE INPUT: true; the input reads as it did. -/
def crcRestSpec : ChangeSpec := { name := "crcRest", fn := fun _ => fun
  | [d] => { results := [.lit (.bool true)], args := [d] }
  | _ => none }
def crcRestRow : OpenClaim := { program := "ytfmphffnhmokbaa", sum := "99af821212e6dc739acd818b33b1b678dd958b23a4e872276ef6940725af3898", func := "gypsum/gypsumlaw06.CrcRest", spec := "crcRest", apart := false }
def CrcRestSaid : Prop := crcRestRow.holds Try.pinned (OpenSpec.ofChange crcRestSpec)

/-- ITS FALSE NEIGHBOUR: 'it returns false'. Refute it at one input. -/
def crcRestWrong : ChangeSpec := { name := "crcRest", fn := fun _ => fun
  | [d] => { results := [.lit (.bool false)], args := [d] }
  | _ => none }
def CrcRestWrongFalsely : Prop := crcRestRow.holds Try.pinned (OpenSpec.ofChange crcRestWrong)

/-- 'gypsumlaw06.CrcOne': WHATEVER THE INPUT: true; the input reads as it did. -/
def crcOneSpec : ChangeSpec := { name := "crcOne", fn := fun _ => fun
  | [d1, d2, d3] => { results := [.lit (.bool true)], args := [d1, d2, d3] }
  | _ => none }
def crcOneRow : OpenClaim := { program := "ytfmphffnhmokbaa", sum := "99af821212e6dc739acd818b33b1b678dd958b23a4e872276ef6940725af3898", func := "gypsum/gypsumlaw06.CrcOne", spec := "crcOne", apart := false }
def CrcOneSaid : Prop := crcOneRow.holds Try.pinned (OpenSpec.ofChange crcOneSpec)

/-- ITS FALSE NEIGHBOUR: 'it returns false'. Refute it at one input. -/
def crcOneWrong : ChangeSpec := { name := "crcOne", fn := fun _ => fun
  | [d1, d2, d3] => { results := [.lit (.bool false)], args := [d1, d2, d3] }
  | _ => none }
def CrcOneWrongFalsely : Prop := crcOneRow.holds Try.pinned (OpenSpec.ofChange crcOneWrong)

/-- 'gypsumlaw06.CrcAhead': WHATEVER THE INPUT: true; the input reads as it did. -/
def crcAheadSpec : ChangeSpec := { name := "crcAhead", fn := fun _ => fun
  | [d1, d2] => { results := [.lit (.bool true)], args := [d1, d2] }
  | _ => none }
def crcAheadRow : OpenClaim := { program := "ytfmphffnhmokbaa", sum := "99af821212e6dc739acd818b33b1b678dd958b23a4e872276ef6940725af3898", func := "gypsum/gypsumlaw06.CrcAhead", spec := "crcAhead", apart := false }
def CrcAheadSaid : Prop := crcAheadRow.holds Try.pinned (OpenSpec.ofChange crcAheadSpec)

/-- ITS FALSE NEIGHBOUR: 'it returns false'. Refute it at one input. -/
def crcAheadWrong : ChangeSpec := { name := "crcAhead", fn := fun _ => fun
  | [d1, d2] => { results := [.lit (.bool false)], args := [d1, d2] }
  | _ => none }
def CrcAheadWrongFalsely : Prop := crcAheadRow.holds Try.pinned (OpenSpec.ofChange crcAheadWrong)

/-- 'gypsumlaw06.CrcWrites': WHATEVER THE INPUT: true; the input reads as it did. -/
def crcWritesSpec : ChangeSpec := { name := "crcWrites", fn := fun _ => fun
  | [d] => { results := [.lit (.bool true)], args := [d] }
  | _ => none }
def crcWritesRow : OpenClaim := { program := "ytfmphffnhmokbaa", sum := "99af821212e6dc739acd818b33b1b678dd958b23a4e872276ef6940725af3898", func := "gypsum/gypsumlaw06.CrcWrites", spec := "crcWrites", apart := false }
def CrcWritesSaid : Prop := crcWritesRow.holds Try.pinned (OpenSpec.ofChange crcWritesSpec)

/-- ITS FALSE NEIGHBOUR: 'it returns false'. Refute it at one input. -/
def crcWritesWrong : ChangeSpec := { name := "crcWrites", fn := fun _ => fun
  | [d] => { results := [.lit (.bool false)], args := [d] }
  | _ => none }
def CrcWritesWrongFalsely : Prop := crcWritesRow.holds Try.pinned (OpenSpec.ofChange crcWritesWrong)

/- THE SECOND FORM. 'bulk': how many values and letters a reading holds, each counted each time it is reached (what is shared counts as often as it is met; a slice's spare places count too). A statement '..UptoSaid' is the law's where the arguments, and the package variables that the reading takes, are together of bulk at most 1048576: NARROWER than '..Said'. Prove '..Said' where nothing that the law and all that it calls make is longer than what came in: it says more and counts as full. Else prove '..UptoSaid'. A law counts once. -/
mutual
def uptoBulk {H : Type} : DataW H → Nat
  | .lit (.string bytes) => bytes.length + 1
  | .lit _ => 1
  | .nil => 1
  | .ptr d => uptoBulk d + 1
  | .slice elems spare => uptoBulkAll elems + uptoBulkAll spare + 1
  | .agg parts => uptoBulkAll parts + 1
  | .iface _ d => uptoBulk d + 1
  | .map entries => uptoBulkEntries entries + 1
  | .held _ => 1
def uptoBulkAll {H : Type} : List (DataW H) → Nat
  | [] => 0
  | d :: r => uptoBulk d + uptoBulkAll r
def uptoBulkEntries {H : Type} : List (Lit × DataW H) → Nat
  | [] => 0
  | x :: r => uptoBulkEntry x + uptoBulkEntries r
def uptoBulkEntry {H : Type} : Lit × DataW H → Nat
  | (.string bytes, d) => bytes.length + uptoBulk d + 1
  | (_, d) => uptoBulk d + 1
 end
def uptoSmall : (H : Type) → List (DataW H) → Bool := fun _ ds => decide (uptoBulkAll ds ≤ 1048576)
def OpenSpec.upto (s : _root_.Go.ChangeSpec) : _root_.Go.OpenSpec := { _root_.Go.OpenSpec.ofChange s with cond := some uptoSmall }

/-- 'gypsumlaw06.CrcSums', WHERE WHAT IT READS IS OF BULK AT MOST 1048576: true; the input reads as it did. -/
def crcSumsUptoRow : OpenClaim := { program := "ytfmphffnhmokbaa", sum := "99af821212e6dc739acd818b33b1b678dd958b23a4e872276ef6940725af3898", func := "gypsum/gypsumlaw06.CrcSums", spec := "crcSums", apart := false, narrowed := true }
def CrcSumsUptoSaid : Prop := crcSumsUptoRow.holds Try.pinned (OpenSpec.upto crcSumsSpec)

/-- 'gypsumlaw06.CrcUpdates', WHERE WHAT IT READS IS OF BULK AT MOST 1048576: true; the input reads as it did. -/
def crcUpdatesUptoRow : OpenClaim := { program := "ytfmphffnhmokbaa", sum := "99af821212e6dc739acd818b33b1b678dd958b23a4e872276ef6940725af3898", func := "gypsum/gypsumlaw06.CrcUpdates", spec := "crcUpdates", apart := false, narrowed := true }
def CrcUpdatesUptoSaid : Prop := crcUpdatesUptoRow.holds Try.pinned (OpenSpec.upto crcUpdatesSpec)

/-- 'gypsumlaw06.CrcBursts', WHERE WHAT IT READS IS OF BULK AT MOST 1048576: true; the input reads as it did. -/
def crcBurstsUptoRow : OpenClaim := { program := "ytfmphffnhmokbaa", sum := "99af821212e6dc739acd818b33b1b678dd958b23a4e872276ef6940725af3898", func := "gypsum/gypsumlaw06.CrcBursts", spec := "crcBursts", apart := false, narrowed := true }
def CrcBurstsUptoSaid : Prop := crcBurstsUptoRow.holds Try.pinned (OpenSpec.upto crcBurstsSpec)

/-- 'gypsumlaw06.CrcTogether', WHERE WHAT IT READS IS OF BULK AT MOST 1048576: true; the input reads as it did. -/
def crcTogetherUptoRow : OpenClaim := { program := "ytfmphffnhmokbaa", sum := "99af821212e6dc739acd818b33b1b678dd958b23a4e872276ef6940725af3898", func := "gypsum/gypsumlaw06.CrcTogether", spec := "crcTogether", apart := false, narrowed := true }
def CrcTogetherUptoSaid : Prop := crcTogetherUptoRow.holds Try.pinned (OpenSpec.upto crcTogetherSpec)

/-- 'gypsumlaw06.CrcRest', WHERE WHAT IT READS IS OF BULK AT MOST 1048576: true; the input reads as it did. -/
def crcRestUptoRow : OpenClaim := { program := "ytfmphffnhmokbaa", sum := "99af821212e6dc739acd818b33b1b678dd958b23a4e872276ef6940725af3898", func := "gypsum/gypsumlaw06.CrcRest", spec := "crcRest", apart := false, narrowed := true }
def CrcRestUptoSaid : Prop := crcRestUptoRow.holds Try.pinned (OpenSpec.upto crcRestSpec)

/-- 'gypsumlaw06.CrcOne', WHERE WHAT IT READS IS OF BULK AT MOST 1048576: true; the input reads as it did. -/
def crcOneUptoRow : OpenClaim := { program := "ytfmphffnhmokbaa", sum := "99af821212e6dc739acd818b33b1b678dd958b23a4e872276ef6940725af3898", func := "gypsum/gypsumlaw06.CrcOne", spec := "crcOne", apart := false, narrowed := true }
def CrcOneUptoSaid : Prop := crcOneUptoRow.holds Try.pinned (OpenSpec.upto crcOneSpec)

/-- 'gypsumlaw06.CrcAhead', WHERE WHAT IT READS IS OF BULK AT MOST 1048576: true; the input reads as it did. -/
def crcAheadUptoRow : OpenClaim := { program := "ytfmphffnhmokbaa", sum := "99af821212e6dc739acd818b33b1b678dd958b23a4e872276ef6940725af3898", func := "gypsum/gypsumlaw06.CrcAhead", spec := "crcAhead", apart := false, narrowed := true }
def CrcAheadUptoSaid : Prop := crcAheadUptoRow.holds Try.pinned (OpenSpec.upto crcAheadSpec)

/-- 'gypsumlaw06.CrcWrites', WHERE WHAT IT READS IS OF BULK AT MOST 1048576: true; the input reads as it did. -/
def crcWritesUptoRow : OpenClaim := { program := "ytfmphffnhmokbaa", sum := "99af821212e6dc739acd818b33b1b678dd958b23a4e872276ef6940725af3898", func := "gypsum/gypsumlaw06.CrcWrites", spec := "crcWrites", apart := false, narrowed := true }
def CrcWritesUptoSaid : Prop := crcWritesUptoRow.holds Try.pinned (OpenSpec.upto crcWritesSpec)

end Rows
end Go.Proofs.Ytfmphffnhmokbaa
