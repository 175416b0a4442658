/-
  No cell of these rows narrows 'for every input' (looked for: loops, veiled, ifaces, maps, wideKeys, modest, calm, conditions, laid).
  DERIVED. THE GIVEN ROWS OF THIS SEAT. 6 by the template 'for every input the law returns true; each argument reads behind the call as it read before'; 0 by the template 'total and deterministic' (their statements: YtinelhjkgikigaaTotals.lean).
  GIVEN WITH THE SEED: the statements are not yours to turn. If you find one false, say at which input.
  Laid BY PROGRAM, IN A SANDBOX (cutbox-rows.mjs): the forced cells as the released guide's own fill.sh prints them over the translation 09c839b9a097019b… (all of the seat's roots in one cut). By AI agents, Wed Nov 11 2026. No macro, syntax, notation, axiom, sorry.
-/
import Derived.Test.YtinelhjkgikigaaChecked
import GoSem.Claim
import GoSem.ClaimJoined
import GoSem.ClaimMapViews
import Derived.JoinedTies
import Derived.KernelRfl
namespace Go.Proofs.Ytinelhjkgikigaa
/- THE CELL 'sum', in the pinned program and in every row, IS THE sha256 OF THE DUMP (.gsa) THAT YtinelhjkgikigaaProg.lean LOADS. Nothing in Lean hashes anything: it is a label: what it is worth is what the hold of that sum in a sandbox is worth. -/
noncomputable def Try.pinned : Pinned := { name := "ytinelhjkgikigaa", sum := "09c839b9a097019be4c207d4fd0096fb8aa01ed89a3c649b0d2c75066229f86d", checked := Try.checked }
namespace Rows
def none {H : Type} : Left H := { results := [], args := [] }

/-- 'estuarylaw21.BloomNever': WHATEVER THE INPUT: true; the input reads as it did. -/
def bloomNeverSpec : ChangeSpec := { name := "bloomNever", fn := fun _ => fun
  | [d1, d2] => { results := [.lit (.bool true)], args := [d1, d2] }
  | _ => none }
def bloomNeverRow : OpenClaim := { program := "ytinelhjkgikigaa", sum := "09c839b9a097019be4c207d4fd0096fb8aa01ed89a3c649b0d2c75066229f86d", func := "estuary/estuarylaw21.BloomNever", spec := "bloomNever", unfollowed := true, recurses := true, plainKeys := false, apart := false }
def BloomNeverSaid : Prop := bloomNeverRow.holds Try.pinned (OpenSpec.ofChange bloomNeverSpec)

/-- ITS FALSE NEIGHBOUR: 'it returns false'. Refute it at one input. -/
def bloomNeverWrong : ChangeSpec := { name := "bloomNever", fn := fun _ => fun
  | [d1, d2] => { results := [.lit (.bool false)], args := [d1, d2] }
  | _ => none }
def BloomNeverWrongFalsely : Prop := bloomNeverRow.holds Try.pinned (OpenSpec.ofChange bloomNeverWrong)

/-- 'estuarylaw21.BloomOrder': WHATEVER THE INPUT: true; the input reads as it did. -/
def bloomOrderSpec : ChangeSpec := { name := "bloomOrder", fn := fun _ => fun
  | [d1, d2, d3] => { results := [.lit (.bool true)], args := [d1, d2, d3] }
  | _ => none }
def bloomOrderRow : OpenClaim := { program := "ytinelhjkgikigaa", sum := "09c839b9a097019be4c207d4fd0096fb8aa01ed89a3c649b0d2c75066229f86d", func := "estuary/estuarylaw21.BloomOrder", spec := "bloomOrder", unfollowed := true, recurses := true, plainKeys := false, apart := false }
def BloomOrderSaid : Prop := bloomOrderRow.holds Try.pinned (OpenSpec.ofChange bloomOrderSpec)

/-- ITS FALSE NEIGHBOUR: 'it returns false'. Refute it at one input. -/
def bloomOrderWrong : ChangeSpec := { name := "bloomOrder", fn := fun _ => fun
  | [d1, d2, d3] => { results := [.lit (.bool false)], args := [d1, d2, d3] }
  | _ => none }
def BloomOrderWrongFalsely : Prop := bloomOrderRow.holds Try.pinned (OpenSpec.ofChange bloomOrderWrong)

/-- 'estuarylaw21.BloomPlays': WHATEVER THE INPUT: true; the input reads as it did. -/
def bloomPlaysSpec : ChangeSpec := { name := "bloomPlays", fn := fun _ => fun
  | [d] => { results := [.lit (.bool true)], args := [d] }
  | _ => none }
def bloomPlaysRow : OpenClaim := { program := "ytinelhjkgikigaa", sum := "09c839b9a097019be4c207d4fd0096fb8aa01ed89a3c649b0d2c75066229f86d", func := "estuary/estuarylaw21.BloomPlays", spec := "bloomPlays", unfollowed := true, recurses := true, plainKeys := false, apart := false }
def BloomPlaysSaid : Prop := bloomPlaysRow.holds Try.pinned (OpenSpec.ofChange bloomPlaysSpec)

/-- ITS FALSE NEIGHBOUR: 'it returns false'. Refute it at one input. -/
def bloomPlaysWrong : ChangeSpec := { name := "bloomPlays", fn := fun _ => fun
  | [d] => { results := [.lit (.bool false)], args := [d] }
  | _ => none }
def BloomPlaysWrongFalsely : Prop := bloomPlaysRow.holds Try.pinned (OpenSpec.ofChange bloomPlaysWrong)

/-- 'estuarylaw21.BloomDecodes': WHATEVER THE INPUT: true; the input reads as it did. -/
def bloomDecodesSpec : ChangeSpec := { name := "bloomDecodes", fn := fun _ => fun
  | [d] => { results := [.lit (.bool true)], args := [d] }
  | _ => none }
def bloomDecodesRow : OpenClaim := { program := "ytinelhjkgikigaa", sum := "09c839b9a097019be4c207d4fd0096fb8aa01ed89a3c649b0d2c75066229f86d", func := "estuary/estuarylaw21.BloomDecodes", spec := "bloomDecodes", plainKeys := false, apart := false }
def BloomDecodesSaid : Prop := bloomDecodesRow.holds Try.pinned (OpenSpec.ofChange bloomDecodesSpec)

/-- ITS FALSE NEIGHBOUR: 'it returns false'. Refute it at one input. -/
def bloomDecodesWrong : ChangeSpec := { name := "bloomDecodes", fn := fun _ => fun
  | [d] => { results := [.lit (.bool false)], args := [d] }
  | _ => none }
def BloomDecodesWrongFalsely : Prop := bloomDecodesRow.holds Try.pinned (OpenSpec.ofChange bloomDecodesWrong)

/-- 'estuarylaw21.BloomBack': WHATEVER THE INPUT: true; the input reads as it did. -/
def bloomBackSpec : ChangeSpec := { name := "bloomBack", fn := fun _ => fun
  | [d1, d2, d3] => { results := [.lit (.bool true)], args := [d1, d2, d3] }
  | _ => none }
def bloomBackRow : OpenClaim := { program := "ytinelhjkgikigaa", sum := "09c839b9a097019be4c207d4fd0096fb8aa01ed89a3c649b0d2c75066229f86d", func := "estuary/estuarylaw21.BloomBack", spec := "bloomBack", plainKeys := false, apart := false }
def BloomBackSaid : Prop := bloomBackRow.holds Try.pinned (OpenSpec.ofChange bloomBackSpec)

/-- ITS FALSE NEIGHBOUR: 'it returns false'. Refute it at one input. -/
def bloomBackWrong : ChangeSpec := { name := "bloomBack", fn := fun _ => fun
  | [d1, d2, d3] => { results := [.lit (.bool false)], args := [d1, d2, d3] }
  | _ => none }
def BloomBackWrongFalsely : Prop := bloomBackRow.holds Try.pinned (OpenSpec.ofChange bloomBackWrong)

/-- 'estuarylaw21.BloomOwn': WHATEVER THE INPUT: true; the input reads as it did. -/
def bloomOwnSpec : ChangeSpec := { name := "bloomOwn", fn := fun _ => fun
  | [d1, d2] => { results := [.lit (.bool true)], args := [d1, d2] }
  | _ => none }
def bloomOwnRow : OpenClaim := { program := "ytinelhjkgikigaa", sum := "09c839b9a097019be4c207d4fd0096fb8aa01ed89a3c649b0d2c75066229f86d", func := "estuary/estuarylaw21.BloomOwn", spec := "bloomOwn", plainKeys := false, apart := false }
def BloomOwnSaid : Prop := bloomOwnRow.holds Try.pinned (OpenSpec.ofChange bloomOwnSpec)

/-- ITS FALSE NEIGHBOUR: 'it returns false'. Refute it at one input. -/
def bloomOwnWrong : ChangeSpec := { name := "bloomOwn", fn := fun _ => fun
  | [d1, d2] => { results := [.lit (.bool false)], args := [d1, d2] }
  | _ => none }
def BloomOwnWrongFalsely : Prop := bloomOwnRow.holds Try.pinned (OpenSpec.ofChange bloomOwnWrong)

/- THE SECOND FORM. 'bulk': how many values and letters a reading holds, each counted each time it is reached (what is shared counts as often as it is met; a slice's spare places count too). A statement '..UptoSaid' is the law's where the arguments, and the package variables that the reading takes, are together of bulk at most 1048576: NARROWER than '..Said'. Prove '..Said' where nothing that the law and all that it calls make is longer than what came in: it says more and counts as full. Else prove '..UptoSaid'. A law counts once. -/
mutual
def uptoBulk {H : Type} : DataW H → Nat
  | .lit (.string bytes) => bytes.length + 1
  | .lit _ => 1
  | .nil => 1
  | .ptr d => uptoBulk d + 1
  | .slice elems spare => uptoBulkAll elems + uptoBulkAll spare + 1
  | .agg parts => uptoBulkAll parts + 1
  | .iface _ d => uptoBulk d + 1
  | .map entries => uptoBulkEntries entries + 1
  | .held _ => 1
def uptoBulkAll {H : Type} : List (DataW H) → Nat
  | [] => 0
  | d :: r => uptoBulk d + uptoBulkAll r
def uptoBulkEntries {H : Type} : List (Lit × DataW H) → Nat
  | [] => 0
  | x :: r => uptoBulkEntry x + uptoBulkEntries r
def uptoBulkEntry {H : Type} : Lit × DataW H → Nat
  | (.string bytes, d) => bytes.length + uptoBulk d + 1
  | (_, d) => uptoBulk d + 1
 end
def uptoSmall : (H : Type) → List (DataW H) → Bool := fun _ ds => decide (uptoBulkAll ds ≤ 1048576)
def OpenSpec.upto (s : _root_.Go.ChangeSpec) : _root_.Go.OpenSpec := { _root_.Go.OpenSpec.ofChange s with cond := some uptoSmall }

/-- 'estuarylaw21.BloomNever', WHERE WHAT IT READS IS OF BULK AT MOST 1048576: true; the input reads as it did. -/
def bloomNeverUptoRow : OpenClaim := { program := "ytinelhjkgikigaa", sum := "09c839b9a097019be4c207d4fd0096fb8aa01ed89a3c649b0d2c75066229f86d", func := "estuary/estuarylaw21.BloomNever", spec := "bloomNever", unfollowed := true, recurses := true, plainKeys := false, apart := false, narrowed := true }
def BloomNeverUptoSaid : Prop := bloomNeverUptoRow.holds Try.pinned (OpenSpec.upto bloomNeverSpec)

/-- 'estuarylaw21.BloomOrder', WHERE WHAT IT READS IS OF BULK AT MOST 1048576: true; the input reads as it did. -/
def bloomOrderUptoRow : OpenClaim := { program := "ytinelhjkgikigaa", sum := "09c839b9a097019be4c207d4fd0096fb8aa01ed89a3c649b0d2c75066229f86d", func := "estuary/estuarylaw21.BloomOrder", spec := "bloomOrder", unfollowed := true, recurses := true, plainKeys := false, apart := false, narrowed := true }
def BloomOrderUptoSaid : Prop := bloomOrderUptoRow.holds Try.pinned (OpenSpec.upto bloomOrderSpec)

/-- 'estuarylaw21.BloomPlays', WHERE WHAT IT READS IS OF BULK AT MOST 1048576: true; the input reads as it did. -/
def bloomPlaysUptoRow : OpenClaim := { program := "ytinelhjkgikigaa", sum := "09c839b9a097019be4c207d4fd0096fb8aa01ed89a3c649b0d2c75066229f86d", func := "estuary/estuarylaw21.BloomPlays", spec := "bloomPlays", unfollowed := true, recurses := true, plainKeys := false, apart := false, narrowed := true }
def BloomPlaysUptoSaid : Prop := bloomPlaysUptoRow.holds Try.pinned (OpenSpec.upto bloomPlaysSpec)

/-- 'estuarylaw21.BloomDecodes', WHERE WHAT IT READS IS OF BULK AT MOST 1048576: true; the input reads as it did. -/
def bloomDecodesUptoRow : OpenClaim := { program := "ytinelhjkgikigaa", sum := "09c839b9a097019be4c207d4fd0096fb8aa01ed89a3c649b0d2c75066229f86d", func := "estuary/estuarylaw21.BloomDecodes", spec := "bloomDecodes", plainKeys := false, apart := false, narrowed := true }
def BloomDecodesUptoSaid : Prop := bloomDecodesUptoRow.holds Try.pinned (OpenSpec.upto bloomDecodesSpec)

/-- 'estuarylaw21.BloomBack', WHERE WHAT IT READS IS OF BULK AT MOST 1048576: true; the input reads as it did. -/
def bloomBackUptoRow : OpenClaim := { program := "ytinelhjkgikigaa", sum := "09c839b9a097019be4c207d4fd0096fb8aa01ed89a3c649b0d2c75066229f86d", func := "estuary/estuarylaw21.BloomBack", spec := "bloomBack", plainKeys := false, apart := false, narrowed := true }
def BloomBackUptoSaid : Prop := bloomBackUptoRow.holds Try.pinned (OpenSpec.upto bloomBackSpec)

/-- 'estuarylaw21.BloomOwn', WHERE WHAT IT READS IS OF BULK AT MOST 1048576: true; the input reads as it did. -/
def bloomOwnUptoRow : OpenClaim := { program := "ytinelhjkgikigaa", sum := "09c839b9a097019be4c207d4fd0096fb8aa01ed89a3c649b0d2c75066229f86d", func := "estuary/estuarylaw21.BloomOwn", spec := "bloomOwn", plainKeys := false, apart := false, narrowed := true }
def BloomOwnUptoSaid : Prop := bloomOwnUptoRow.holds Try.pinned (OpenSpec.upto bloomOwnSpec)

end Rows
end Go.Proofs.Ytinelhjkgikigaa
