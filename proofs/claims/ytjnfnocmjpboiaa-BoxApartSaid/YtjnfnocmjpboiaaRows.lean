/-
  No cell of these rows narrows 'for every input' (looked for: loops, veiled, ifaces, maps, wideKeys, modest, calm, conditions, laid).
  DERIVED. THE GIVEN ROWS OF THIS SEAT. 7 by the template 'for every input the law returns true; each argument reads behind the call as it read before'; 0 by the template 'total and deterministic' (their statements: YtjnfnocmjpboiaaTotals.lean).
  GIVEN WITH THE SEED: the statements are not yours to turn. If you find one false, say at which input.
  Laid BY PROGRAM, IN A SANDBOX (cutbox-rows.mjs): the forced cells as the released guide's own fill.sh prints them over the translation 3cab1205ca2493ec… (all of the seat's roots in one cut). By AI agents, Wed Nov 11 2026. No macro, syntax, notation, axiom, sorry.
-/
import Derived.Test.YtjnfnocmjpboiaaChecked
import GoSem.Claim
import GoSem.ClaimJoined
import GoSem.ClaimMapViews
import Derived.JoinedTies
import Derived.KernelRfl
namespace Go.Proofs.Ytjnfnocmjpboiaa
/- THE CELL 'sum', in the pinned program and in every row, IS THE sha256 OF THE DUMP (.gsa) THAT YtjnfnocmjpboiaaProg.lean LOADS. Nothing in Lean hashes anything: it is a label: what it is worth is what the hold of that sum in a sandbox is worth. -/
noncomputable def Try.pinned : Pinned := { name := "ytjnfnocmjpboiaa", sum := "3cab1205ca2493ec7382a6e328eaeeda3c2c433988858b89e06b9f5554953f99", checked := Try.checked }
namespace Rows
def none {H : Type} : Left H := { results := [], args := [] }

/-- 'gypsumlaw07.BoxPacks': WHATEVER THE INPUT: true; the input reads as it did. -/
def boxPacksSpec : ChangeSpec := { name := "boxPacks", fn := fun _ => fun
  | [d] => { results := [.lit (.bool true)], args := [d] }
  | _ => none }
def boxPacksRow : OpenClaim := { program := "ytjnfnocmjpboiaa", sum := "3cab1205ca2493ec7382a6e328eaeeda3c2c433988858b89e06b9f5554953f99", func := "gypsum/gypsumlaw07.BoxPacks", spec := "boxPacks", unfollowed := true, recurses := true, apart := false }
def BoxPacksSaid : Prop := boxPacksRow.holds Try.pinned (OpenSpec.ofChange boxPacksSpec)

/-- ITS FALSE NEIGHBOUR: 'it returns false'. Refute it at one input. -/
def boxPacksWrong : ChangeSpec := { name := "boxPacks", fn := fun _ => fun
  | [d] => { results := [.lit (.bool false)], args := [d] }
  | _ => none }
def BoxPacksWrongFalsely : Prop := boxPacksRow.holds Try.pinned (OpenSpec.ofChange boxPacksWrong)

/-- 'gypsumlaw07.BoxBack': WHATEVER THE INPUT: true; the input reads as it did. -/
def boxBackSpec : ChangeSpec := { name := "boxBack", fn := fun _ => fun
  | [d] => { results := [.lit (.bool true)], args := [d] }
  | _ => none }
def boxBackRow : OpenClaim := { program := "ytjnfnocmjpboiaa", sum := "3cab1205ca2493ec7382a6e328eaeeda3c2c433988858b89e06b9f5554953f99", func := "gypsum/gypsumlaw07.BoxBack", spec := "boxBack", unfollowed := true, recurses := true, apart := false }
def BoxBackSaid : Prop := boxBackRow.holds Try.pinned (OpenSpec.ofChange boxBackSpec)

/-- ITS FALSE NEIGHBOUR: 'it returns false'. Refute it at one input. -/
def boxBackWrong : ChangeSpec := { name := "boxBack", fn := fun _ => fun
  | [d] => { results := [.lit (.bool false)], args := [d] }
  | _ => none }
def BoxBackWrongFalsely : Prop := boxBackRow.holds Try.pinned (OpenSpec.ofChange boxBackWrong)

/-- 'gypsumlaw07.BoxBurst': WHATEVER THE INPUT: true; the input reads as it did. -/
def boxBurstSpec : ChangeSpec := { name := "boxBurst", fn := fun _ => fun
  | [d1, d2, d3] => { results := [.lit (.bool true)], args := [d1, d2, d3] }
  | _ => none }
def boxBurstRow : OpenClaim := { program := "ytjnfnocmjpboiaa", sum := "3cab1205ca2493ec7382a6e328eaeeda3c2c433988858b89e06b9f5554953f99", func := "gypsum/gypsumlaw07.BoxBurst", spec := "boxBurst", unfollowed := true, recurses := true, apart := false }
def BoxBurstSaid : Prop := boxBurstRow.holds Try.pinned (OpenSpec.ofChange boxBurstSpec)

/-- ITS FALSE NEIGHBOUR: 'it returns false'. Refute it at one input. -/
def boxBurstWrong : ChangeSpec := { name := "boxBurst", fn := fun _ => fun
  | [d1, d2, d3] => { results := [.lit (.bool false)], args := [d1, d2, d3] }
  | _ => none }
def BoxBurstWrongFalsely : Prop := boxBurstRow.holds Try.pinned (OpenSpec.ofChange boxBurstWrong)

/-- 'gypsumlaw07.BoxCuts': WHATEVER THE INPUT: true; the input reads as it did. -/
def boxCutsSpec : ChangeSpec := { name := "boxCuts", fn := fun _ => fun
  | [d1, d2] => { results := [.lit (.bool true)], args := [d1, d2] }
  | _ => none }
def boxCutsRow : OpenClaim := { program := "ytjnfnocmjpboiaa", sum := "3cab1205ca2493ec7382a6e328eaeeda3c2c433988858b89e06b9f5554953f99", func := "gypsum/gypsumlaw07.BoxCuts", spec := "boxCuts", unfollowed := true, recurses := true, apart := false }
def BoxCutsSaid : Prop := boxCutsRow.holds Try.pinned (OpenSpec.ofChange boxCutsSpec)

/-- ITS FALSE NEIGHBOUR: 'it returns false'. Refute it at one input. -/
def boxCutsWrong : ChangeSpec := { name := "boxCuts", fn := fun _ => fun
  | [d1, d2] => { results := [.lit (.bool false)], args := [d1, d2] }
  | _ => none }
def BoxCutsWrongFalsely : Prop := boxCutsRow.holds Try.pinned (OpenSpec.ofChange boxCutsWrong)

/-- 'gypsumlaw07.BoxSecond': WHATEVER THE INPUT: true; the input reads as it did. -/
def boxSecondSpec : ChangeSpec := { name := "boxSecond", fn := fun _ => fun
  | [d1, d2, d3] => { results := [.lit (.bool true)], args := [d1, d2, d3] }
  | _ => none }
def boxSecondRow : OpenClaim := { program := "ytjnfnocmjpboiaa", sum := "3cab1205ca2493ec7382a6e328eaeeda3c2c433988858b89e06b9f5554953f99", func := "gypsum/gypsumlaw07.BoxSecond", spec := "boxSecond", unfollowed := true, recurses := true, apart := false }
def BoxSecondSaid : Prop := boxSecondRow.holds Try.pinned (OpenSpec.ofChange boxSecondSpec)

/-- ITS FALSE NEIGHBOUR: 'it returns false'. Refute it at one input. -/
def boxSecondWrong : ChangeSpec := { name := "boxSecond", fn := fun _ => fun
  | [d1, d2, d3] => { results := [.lit (.bool false)], args := [d1, d2, d3] }
  | _ => none }
def BoxSecondWrongFalsely : Prop := boxSecondRow.holds Try.pinned (OpenSpec.ofChange boxSecondWrong)

/-- 'gypsumlaw07.BoxRight': WHATEVER THE INPUT: true; the input reads as it did. -/
def boxRightSpec : ChangeSpec := { name := "boxRight", fn := fun _ => fun
  | [d1, d2, d3, d4] => { results := [.lit (.bool true)], args := [d1, d2, d3, d4] }
  | _ => none }
def boxRightRow : OpenClaim := { program := "ytjnfnocmjpboiaa", sum := "3cab1205ca2493ec7382a6e328eaeeda3c2c433988858b89e06b9f5554953f99", func := "gypsum/gypsumlaw07.BoxRight", spec := "boxRight", unfollowed := true, recurses := true, apart := false }
def BoxRightSaid : Prop := boxRightRow.holds Try.pinned (OpenSpec.ofChange boxRightSpec)

/-- ITS FALSE NEIGHBOUR: 'it returns false'. Refute it at one input. -/
def boxRightWrong : ChangeSpec := { name := "boxRight", fn := fun _ => fun
  | [d1, d2, d3, d4] => { results := [.lit (.bool false)], args := [d1, d2, d3, d4] }
  | _ => none }
def BoxRightWrongFalsely : Prop := boxRightRow.holds Try.pinned (OpenSpec.ofChange boxRightWrong)

/-- 'gypsumlaw07.BoxApart': WHATEVER THE INPUT: true; the input reads as it did. -/
def boxApartSpec : ChangeSpec := { name := "boxApart", fn := fun _ => fun
  | [d1, d2] => { results := [.lit (.bool true)], args := [d1, d2] }
  | _ => none }
def boxApartRow : OpenClaim := { program := "ytjnfnocmjpboiaa", sum := "3cab1205ca2493ec7382a6e328eaeeda3c2c433988858b89e06b9f5554953f99", func := "gypsum/gypsumlaw07.BoxApart", spec := "boxApart", unfollowed := true, recurses := true, apart := false }
def BoxApartSaid : Prop := boxApartRow.holds Try.pinned (OpenSpec.ofChange boxApartSpec)

/-- ITS FALSE NEIGHBOUR: 'it returns false'. Refute it at one input. -/
def boxApartWrong : ChangeSpec := { name := "boxApart", fn := fun _ => fun
  | [d1, d2] => { results := [.lit (.bool false)], args := [d1, d2] }
  | _ => none }
def BoxApartWrongFalsely : Prop := boxApartRow.holds Try.pinned (OpenSpec.ofChange boxApartWrong)

/- THE SECOND FORM. 'bulk': how many values and letters a reading holds, each counted each time it is reached (what is shared counts as often as it is met; a slice's spare places count too). A statement '..UptoSaid' is the law's where the arguments, and the package variables that the reading takes, are together of bulk at most 1048576: NARROWER than '..Said'. Prove '..Said' where nothing that the law and all that it calls make is longer than what came in: it says more and counts as full. Else prove '..UptoSaid'. A law counts once. -/
mutual
def uptoBulk {H : Type} : DataW H → Nat
  | .lit (.string bytes) => bytes.length + 1
  | .lit _ => 1
  | .nil => 1
  | .ptr d => uptoBulk d + 1
  | .slice elems spare => uptoBulkAll elems + uptoBulkAll spare + 1
  | .agg parts => uptoBulkAll parts + 1
  | .iface _ d => uptoBulk d + 1
  | .map entries => uptoBulkEntries entries + 1
  | .held _ => 1
def uptoBulkAll {H : Type} : List (DataW H) → Nat
  | [] => 0
  | d :: r => uptoBulk d + uptoBulkAll r
def uptoBulkEntries {H : Type} : List (Lit × DataW H) → Nat
  | [] => 0
  | x :: r => uptoBulkEntry x + uptoBulkEntries r
def uptoBulkEntry {H : Type} : Lit × DataW H → Nat
  | (.string bytes, d) => bytes.length + uptoBulk d + 1
  | (_, d) => uptoBulk d + 1
 end
def uptoSmall : (H : Type) → List (DataW H) → Bool := fun _ ds => decide (uptoBulkAll ds ≤ 1048576)
def OpenSpec.upto (s : _root_.Go.ChangeSpec) : _root_.Go.OpenSpec := { _root_.Go.OpenSpec.ofChange s with cond := some uptoSmall }

/-- 'gypsumlaw07.BoxPacks', WHERE WHAT IT READS IS OF BULK AT MOST 1048576: true; the input reads as it did. -/
def boxPacksUptoRow : OpenClaim := { program := "ytjnfnocmjpboiaa", sum := "3cab1205ca2493ec7382a6e328eaeeda3c2c433988858b89e06b9f5554953f99", func := "gypsum/gypsumlaw07.BoxPacks", spec := "boxPacks", unfollowed := true, recurses := true, apart := false, narrowed := true }
def BoxPacksUptoSaid : Prop := boxPacksUptoRow.holds Try.pinned (OpenSpec.upto boxPacksSpec)

/-- 'gypsumlaw07.BoxBack', WHERE WHAT IT READS IS OF BULK AT MOST 1048576: true; the input reads as it did. -/
def boxBackUptoRow : OpenClaim := { program := "ytjnfnocmjpboiaa", sum := "3cab1205ca2493ec7382a6e328eaeeda3c2c433988858b89e06b9f5554953f99", func := "gypsum/gypsumlaw07.BoxBack", spec := "boxBack", unfollowed := true, recurses := true, apart := false, narrowed := true }
def BoxBackUptoSaid : Prop := boxBackUptoRow.holds Try.pinned (OpenSpec.upto boxBackSpec)

/-- 'gypsumlaw07.BoxBurst', WHERE WHAT IT READS IS OF BULK AT MOST 1048576: true; the input reads as it did. -/
def boxBurstUptoRow : OpenClaim := { program := "ytjnfnocmjpboiaa", sum := "3cab1205ca2493ec7382a6e328eaeeda3c2c433988858b89e06b9f5554953f99", func := "gypsum/gypsumlaw07.BoxBurst", spec := "boxBurst", unfollowed := true, recurses := true, apart := false, narrowed := true }
def BoxBurstUptoSaid : Prop := boxBurstUptoRow.holds Try.pinned (OpenSpec.upto boxBurstSpec)

/-- 'gypsumlaw07.BoxCuts', WHERE WHAT IT READS IS OF BULK AT MOST 1048576: true; the input reads as it did. -/
def boxCutsUptoRow : OpenClaim := { program := "ytjnfnocmjpboiaa", sum := "3cab1205ca2493ec7382a6e328eaeeda3c2c433988858b89e06b9f5554953f99", func := "gypsum/gypsumlaw07.BoxCuts", spec := "boxCuts", unfollowed := true, recurses := true, apart := false, narrowed := true }
def BoxCutsUptoSaid : Prop := boxCutsUptoRow.holds Try.pinned (OpenSpec.upto boxCutsSpec)

/-- 'gypsumlaw07.BoxSecond', WHERE WHAT IT READS IS OF BULK AT MOST 1048576: true; the input reads as it did. -/
def boxSecondUptoRow : OpenClaim := { program := "ytjnfnocmjpboiaa", sum := "3cab1205ca2493ec7382a6e328eaeeda3c2c433988858b89e06b9f5554953f99", func := "gypsum/gypsumlaw07.BoxSecond", spec := "boxSecond", unfollowed := true, recurses := true, apart := false, narrowed := true }
def BoxSecondUptoSaid : Prop := boxSecondUptoRow.holds Try.pinned (OpenSpec.upto boxSecondSpec)

/-- 'gypsumlaw07.BoxRight', WHERE WHAT IT READS IS OF BULK AT MOST 1048576: true; the input reads as it did. -/
def boxRightUptoRow : OpenClaim := { program := "ytjnfnocmjpboiaa", sum := "3cab1205ca2493ec7382a6e328eaeeda3c2c433988858b89e06b9f5554953f99", func := "gypsum/gypsumlaw07.BoxRight", spec := "boxRight", unfollowed := true, recurses := true, apart := false, narrowed := true }
def BoxRightUptoSaid : Prop := boxRightUptoRow.holds Try.pinned (OpenSpec.upto boxRightSpec)

/-- 'gypsumlaw07.BoxApart', WHERE WHAT IT READS IS OF BULK AT MOST 1048576: true; the input reads as it did. -/
def boxApartUptoRow : OpenClaim := { program := "ytjnfnocmjpboiaa", sum := "3cab1205ca2493ec7382a6e328eaeeda3c2c433988858b89e06b9f5554953f99", func := "gypsum/gypsumlaw07.BoxApart", spec := "boxApart", unfollowed := true, recurses := true, apart := false, narrowed := true }
def BoxApartUptoSaid : Prop := boxApartUptoRow.holds Try.pinned (OpenSpec.upto boxApartSpec)

end Rows
end Go.Proofs.Ytjnfnocmjpboiaa
