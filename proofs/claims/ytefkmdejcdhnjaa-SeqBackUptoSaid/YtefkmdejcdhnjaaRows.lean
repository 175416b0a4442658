/-
  No cell of these rows narrows 'for every input' (looked for: loops, veiled, ifaces, maps, wideKeys, modest, calm, conditions, laid).
  DERIVED. THE GIVEN ROWS OF THIS SEAT. 8 by the template 'for every input the law returns true; each argument reads behind the call as it read before'; 0 by the template 'total and deterministic' (their statements: YtefkmdejcdhnjaaTotals.lean).
  GIVEN WITH THE SEED: the statements are not yours to turn. If you find one false, say at which input.
  Laid BY PROGRAM, IN A SANDBOX (cutbox-rows.mjs): the forced cells as the released guide's own fill.sh prints them over the translation 4cc68e13497d44a2… (all of the seat's roots in one cut). By AI agents, Wed Nov 11 2026. No macro, syntax, notation, axiom, sorry.
-/
import Derived.Test.YtefkmdejcdhnjaaChecked
import GoSem.Claim
import GoSem.ClaimJoined
import GoSem.ClaimMapViews
import Derived.JoinedTies
import Derived.KernelRfl
namespace Go.Proofs.Ytefkmdejcdhnjaa
/- THE CELL 'sum', in the pinned program and in every row, IS THE sha256 OF THE DUMP (.gsa) THAT YtefkmdejcdhnjaaProg.lean LOADS. Nothing in Lean hashes anything: it is a label: what it is worth is what the hold of that sum in a sandbox is worth. -/
noncomputable def Try.pinned : Pinned := { name := "ytefkmdejcdhnjaa", sum := "4cc68e13497d44a20c0119c060709e066fe9fe4c9bca495d24b97164342625ee", checked := Try.checked }
namespace Rows
def none {H : Type} : Left H := { results := [], args := [] }

/-- 'estuarylaw09.SeqTree': WHATEVER THE INPUT: true; the input reads as it did. -/
def seqTreeSpec : ChangeSpec := { name := "seqTree", fn := fun _ => fun
  | [d] => { results := [.lit (.bool true)], args := [d] }
  | _ => none }
def seqTreeRow : OpenClaim := { program := "ytefkmdejcdhnjaa", sum := "4cc68e13497d44a20c0119c060709e066fe9fe4c9bca495d24b97164342625ee", func := "estuary/estuarylaw09.SeqTree", spec := "seqTree", inPlace := ["slices.overlaps[estuary/seq.element]"], unfollowed := true, recurses := true, apart := false }
def SeqTreeSaid : Prop := seqTreeRow.holds Try.pinned (OpenSpec.ofChange seqTreeSpec)

/-- ITS FALSE NEIGHBOUR: 'it returns false'. Refute it at one input. -/
def seqTreeWrong : ChangeSpec := { name := "seqTree", fn := fun _ => fun
  | [d] => { results := [.lit (.bool false)], args := [d] }
  | _ => none }
def SeqTreeWrongFalsely : Prop := seqTreeRow.holds Try.pinned (OpenSpec.ofChange seqTreeWrong)

/-- 'estuarylaw09.SeqBetween': WHATEVER THE INPUT: true; the input reads as it did. -/
def seqBetweenSpec : ChangeSpec := { name := "seqBetween", fn := fun _ => fun
  | [d] => { results := [.lit (.bool true)], args := [d] }
  | _ => none }
def seqBetweenRow : OpenClaim := { program := "ytefkmdejcdhnjaa", sum := "4cc68e13497d44a20c0119c060709e066fe9fe4c9bca495d24b97164342625ee", func := "estuary/estuarylaw09.SeqBetween", spec := "seqBetween", inPlace := ["slices.overlaps[estuary/seq.element]"], unfollowed := true, recurses := true, apart := false }
def SeqBetweenSaid : Prop := seqBetweenRow.holds Try.pinned (OpenSpec.ofChange seqBetweenSpec)

/-- ITS FALSE NEIGHBOUR: 'it returns false'. Refute it at one input. -/
def seqBetweenWrong : ChangeSpec := { name := "seqBetween", fn := fun _ => fun
  | [d] => { results := [.lit (.bool false)], args := [d] }
  | _ => none }
def SeqBetweenWrongFalsely : Prop := seqBetweenRow.holds Try.pinned (OpenSpec.ofChange seqBetweenWrong)

/-- 'estuarylaw09.SeqOwn': WHATEVER THE INPUT: true; the input reads as it did. -/
def seqOwnSpec : ChangeSpec := { name := "seqOwn", fn := fun _ => fun
  | [d] => { results := [.lit (.bool true)], args := [d] }
  | _ => none }
def seqOwnRow : OpenClaim := { program := "ytefkmdejcdhnjaa", sum := "4cc68e13497d44a20c0119c060709e066fe9fe4c9bca495d24b97164342625ee", func := "estuary/estuarylaw09.SeqOwn", spec := "seqOwn", inPlace := ["slices.overlaps[estuary/seq.element]"], unfollowed := true, recurses := true, apart := false }
def SeqOwnSaid : Prop := seqOwnRow.holds Try.pinned (OpenSpec.ofChange seqOwnSpec)

/-- ITS FALSE NEIGHBOUR: 'it returns false'. Refute it at one input. -/
def seqOwnWrong : ChangeSpec := { name := "seqOwn", fn := fun _ => fun
  | [d] => { results := [.lit (.bool false)], args := [d] }
  | _ => none }
def SeqOwnWrongFalsely : Prop := seqOwnRow.holds Try.pinned (OpenSpec.ofChange seqOwnWrong)

/-- 'estuarylaw09.SeqFinds': WHATEVER THE INPUT: true; the input reads as it did. -/
def seqFindsSpec : ChangeSpec := { name := "seqFinds", fn := fun _ => fun
  | [d1, d2] => { results := [.lit (.bool true)], args := [d1, d2] }
  | _ => none }
def seqFindsRow : OpenClaim := { program := "ytefkmdejcdhnjaa", sum := "4cc68e13497d44a20c0119c060709e066fe9fe4c9bca495d24b97164342625ee", func := "estuary/estuarylaw09.SeqFinds", spec := "seqFinds", inPlace := ["slices.overlaps[estuary/seq.element]"], unfollowed := true, recurses := true, apart := false }
def SeqFindsSaid : Prop := seqFindsRow.holds Try.pinned (OpenSpec.ofChange seqFindsSpec)

/-- ITS FALSE NEIGHBOUR: 'it returns false'. Refute it at one input. -/
def seqFindsWrong : ChangeSpec := { name := "seqFinds", fn := fun _ => fun
  | [d1, d2] => { results := [.lit (.bool false)], args := [d1, d2] }
  | _ => none }
def SeqFindsWrongFalsely : Prop := seqFindsRow.holds Try.pinned (OpenSpec.ofChange seqFindsWrong)

/-- 'estuarylaw09.SeqBack': WHATEVER THE INPUT: true; the input reads as it did. -/
def seqBackSpec : ChangeSpec := { name := "seqBack", fn := fun _ => fun
  | [d1, d2, d3] => { results := [.lit (.bool true)], args := [d1, d2, d3] }
  | _ => none }
def seqBackRow : OpenClaim := { program := "ytefkmdejcdhnjaa", sum := "4cc68e13497d44a20c0119c060709e066fe9fe4c9bca495d24b97164342625ee", func := "estuary/estuarylaw09.SeqBack", spec := "seqBack", inPlace := ["slices.overlaps[estuary/seq.element]"], unfollowed := true, recurses := true, apart := false }
def SeqBackSaid : Prop := seqBackRow.holds Try.pinned (OpenSpec.ofChange seqBackSpec)

/-- ITS FALSE NEIGHBOUR: 'it returns false'. Refute it at one input. -/
def seqBackWrong : ChangeSpec := { name := "seqBack", fn := fun _ => fun
  | [d1, d2, d3] => { results := [.lit (.bool false)], args := [d1, d2, d3] }
  | _ => none }
def SeqBackWrongFalsely : Prop := seqBackRow.holds Try.pinned (OpenSpec.ofChange seqBackWrong)

/-- 'estuarylaw09.SeqStays': WHATEVER THE INPUT: true; the input reads as it did. -/
def seqStaysSpec : ChangeSpec := { name := "seqStays", fn := fun _ => fun
  | [d1, d2] => { results := [.lit (.bool true)], args := [d1, d2] }
  | _ => none }
def seqStaysRow : OpenClaim := { program := "ytefkmdejcdhnjaa", sum := "4cc68e13497d44a20c0119c060709e066fe9fe4c9bca495d24b97164342625ee", func := "estuary/estuarylaw09.SeqStays", spec := "seqStays", inPlace := ["slices.overlaps[estuary/seq.element]"], unfollowed := true, recurses := true, apart := false }
def SeqStaysSaid : Prop := seqStaysRow.holds Try.pinned (OpenSpec.ofChange seqStaysSpec)

/-- ITS FALSE NEIGHBOUR: 'it returns false'. Refute it at one input. -/
def seqStaysWrong : ChangeSpec := { name := "seqStays", fn := fun _ => fun
  | [d1, d2] => { results := [.lit (.bool false)], args := [d1, d2] }
  | _ => none }
def SeqStaysWrongFalsely : Prop := seqStaysRow.holds Try.pinned (OpenSpec.ofChange seqStaysWrong)

/-- 'estuarylaw09.SeqPlays': WHATEVER THE INPUT: true; the input reads as it did. -/
def seqPlaysSpec : ChangeSpec := { name := "seqPlays", fn := fun _ => fun
  | [d] => { results := [.lit (.bool true)], args := [d] }
  | _ => none }
def seqPlaysRow : OpenClaim := { program := "ytefkmdejcdhnjaa", sum := "4cc68e13497d44a20c0119c060709e066fe9fe4c9bca495d24b97164342625ee", func := "estuary/estuarylaw09.SeqPlays", spec := "seqPlays", inPlace := ["slices.overlaps[estuary/seq.element]"], unfollowed := true, recurses := true, apart := false }
def SeqPlaysSaid : Prop := seqPlaysRow.holds Try.pinned (OpenSpec.ofChange seqPlaysSpec)

/-- ITS FALSE NEIGHBOUR: 'it returns false'. Refute it at one input. -/
def seqPlaysWrong : ChangeSpec := { name := "seqPlays", fn := fun _ => fun
  | [d] => { results := [.lit (.bool false)], args := [d] }
  | _ => none }
def SeqPlaysWrongFalsely : Prop := seqPlaysRow.holds Try.pinned (OpenSpec.ofChange seqPlaysWrong)

/-- 'estuarytop.TopWoven': WHATEVER THE INPUT: true; the input reads as it did. -/
def topWovenSpec : ChangeSpec := { name := "topWoven", fn := fun _ => fun
  | [d1, d2, d3] => { results := [.lit (.bool true)], args := [d1, d2, d3] }
  | _ => none }
def topWovenRow : OpenClaim := { program := "ytefkmdejcdhnjaa", sum := "4cc68e13497d44a20c0119c060709e066fe9fe4c9bca495d24b97164342625ee", func := "estuary/estuarytop.TopWoven", spec := "topWoven", inPlace := ["slices.overlaps[estuary/seq.element]"], unfollowed := true, recurses := true, apart := false }
def TopWovenSaid : Prop := topWovenRow.holds Try.pinned (OpenSpec.ofChange topWovenSpec)

/-- ITS FALSE NEIGHBOUR: 'it returns false'. Refute it at one input. -/
def topWovenWrong : ChangeSpec := { name := "topWoven", fn := fun _ => fun
  | [d1, d2, d3] => { results := [.lit (.bool false)], args := [d1, d2, d3] }
  | _ => none }
def TopWovenWrongFalsely : Prop := topWovenRow.holds Try.pinned (OpenSpec.ofChange topWovenWrong)

/- THE SECOND FORM. 'bulk': how many values and letters a reading holds, each counted each time it is reached (what is shared counts as often as it is met; a slice's spare places count too). A statement '..UptoSaid' is the law's where the arguments, and the package variables that the reading takes, are together of bulk at most 1048576: NARROWER than '..Said'. Prove '..Said' where nothing that the law and all that it calls make is longer than what came in: it says more and counts as full. Else prove '..UptoSaid'. A law counts once. -/
mutual
def uptoBulk {H : Type} : DataW H → Nat
  | .lit (.string bytes) => bytes.length + 1
  | .lit _ => 1
  | .nil => 1
  | .ptr d => uptoBulk d + 1
  | .slice elems spare => uptoBulkAll elems + uptoBulkAll spare + 1
  | .agg parts => uptoBulkAll parts + 1
  | .iface _ d => uptoBulk d + 1
  | .map entries => uptoBulkEntries entries + 1
  | .held _ => 1
def uptoBulkAll {H : Type} : List (DataW H) → Nat
  | [] => 0
  | d :: r => uptoBulk d + uptoBulkAll r
def uptoBulkEntries {H : Type} : List (Lit × DataW H) → Nat
  | [] => 0
  | x :: r => uptoBulkEntry x + uptoBulkEntries r
def uptoBulkEntry {H : Type} : Lit × DataW H → Nat
  | (.string bytes, d) => bytes.length + uptoBulk d + 1
  | (_, d) => uptoBulk d + 1
 end
def uptoSmall : (H : Type) → List (DataW H) → Bool := fun _ ds => decide (uptoBulkAll ds ≤ 1048576)
def OpenSpec.upto (s : _root_.Go.ChangeSpec) : _root_.Go.OpenSpec := { _root_.Go.OpenSpec.ofChange s with cond := some uptoSmall }

/-- 'estuarylaw09.SeqTree', WHERE WHAT IT READS IS OF BULK AT MOST 1048576: true; the input reads as it did. -/
def seqTreeUptoRow : OpenClaim := { program := "ytefkmdejcdhnjaa", sum := "4cc68e13497d44a20c0119c060709e066fe9fe4c9bca495d24b97164342625ee", func := "estuary/estuarylaw09.SeqTree", spec := "seqTree", inPlace := ["slices.overlaps[estuary/seq.element]"], unfollowed := true, recurses := true, apart := false, narrowed := true }
def SeqTreeUptoSaid : Prop := seqTreeUptoRow.holds Try.pinned (OpenSpec.upto seqTreeSpec)

/-- 'estuarylaw09.SeqBetween', WHERE WHAT IT READS IS OF BULK AT MOST 1048576: true; the input reads as it did. -/
def seqBetweenUptoRow : OpenClaim := { program := "ytefkmdejcdhnjaa", sum := "4cc68e13497d44a20c0119c060709e066fe9fe4c9bca495d24b97164342625ee", func := "estuary/estuarylaw09.SeqBetween", spec := "seqBetween", inPlace := ["slices.overlaps[estuary/seq.element]"], unfollowed := true, recurses := true, apart := false, narrowed := true }
def SeqBetweenUptoSaid : Prop := seqBetweenUptoRow.holds Try.pinned (OpenSpec.upto seqBetweenSpec)

/-- 'estuarylaw09.SeqOwn', WHERE WHAT IT READS IS OF BULK AT MOST 1048576: true; the input reads as it did. -/
def seqOwnUptoRow : OpenClaim := { program := "ytefkmdejcdhnjaa", sum := "4cc68e13497d44a20c0119c060709e066fe9fe4c9bca495d24b97164342625ee", func := "estuary/estuarylaw09.SeqOwn", spec := "seqOwn", inPlace := ["slices.overlaps[estuary/seq.element]"], unfollowed := true, recurses := true, apart := false, narrowed := true }
def SeqOwnUptoSaid : Prop := seqOwnUptoRow.holds Try.pinned (OpenSpec.upto seqOwnSpec)

/-- 'estuarylaw09.SeqFinds', WHERE WHAT IT READS IS OF BULK AT MOST 1048576: true; the input reads as it did. -/
def seqFindsUptoRow : OpenClaim := { program := "ytefkmdejcdhnjaa", sum := "4cc68e13497d44a20c0119c060709e066fe9fe4c9bca495d24b97164342625ee", func := "estuary/estuarylaw09.SeqFinds", spec := "seqFinds", inPlace := ["slices.overlaps[estuary/seq.element]"], unfollowed := true, recurses := true, apart := false, narrowed := true }
def SeqFindsUptoSaid : Prop := seqFindsUptoRow.holds Try.pinned (OpenSpec.upto seqFindsSpec)

/-- 'estuarylaw09.SeqBack', WHERE WHAT IT READS IS OF BULK AT MOST 1048576: true; the input reads as it did. -/
def seqBackUptoRow : OpenClaim := { program := "ytefkmdejcdhnjaa", sum := "4cc68e13497d44a20c0119c060709e066fe9fe4c9bca495d24b97164342625ee", func := "estuary/estuarylaw09.SeqBack", spec := "seqBack", inPlace := ["slices.overlaps[estuary/seq.element]"], unfollowed := true, recurses := true, apart := false, narrowed := true }
def SeqBackUptoSaid : Prop := seqBackUptoRow.holds Try.pinned (OpenSpec.upto seqBackSpec)

/-- 'estuarylaw09.SeqStays', WHERE WHAT IT READS IS OF BULK AT MOST 1048576: true; the input reads as it did. -/
def seqStaysUptoRow : OpenClaim := { program := "ytefkmdejcdhnjaa", sum := "4cc68e13497d44a20c0119c060709e066fe9fe4c9bca495d24b97164342625ee", func := "estuary/estuarylaw09.SeqStays", spec := "seqStays", inPlace := ["slices.overlaps[estuary/seq.element]"], unfollowed := true, recurses := true, apart := false, narrowed := true }
def SeqStaysUptoSaid : Prop := seqStaysUptoRow.holds Try.pinned (OpenSpec.upto seqStaysSpec)

/-- 'estuarylaw09.SeqPlays', WHERE WHAT IT READS IS OF BULK AT MOST 1048576: true; the input reads as it did. -/
def seqPlaysUptoRow : OpenClaim := { program := "ytefkmdejcdhnjaa", sum := "4cc68e13497d44a20c0119c060709e066fe9fe4c9bca495d24b97164342625ee", func := "estuary/estuarylaw09.SeqPlays", spec := "seqPlays", inPlace := ["slices.overlaps[estuary/seq.element]"], unfollowed := true, recurses := true, apart := false, narrowed := true }
def SeqPlaysUptoSaid : Prop := seqPlaysUptoRow.holds Try.pinned (OpenSpec.upto seqPlaysSpec)

/-- 'estuarytop.TopWoven', WHERE WHAT IT READS IS OF BULK AT MOST 1048576: true; the input reads as it did. -/
def topWovenUptoRow : OpenClaim := { program := "ytefkmdejcdhnjaa", sum := "4cc68e13497d44a20c0119c060709e066fe9fe4c9bca495d24b97164342625ee", func := "estuary/estuarytop.TopWoven", spec := "topWoven", inPlace := ["slices.overlaps[estuary/seq.element]"], unfollowed := true, recurses := true, apart := false, narrowed := true }
def TopWovenUptoSaid : Prop := topWovenUptoRow.holds Try.pinned (OpenSpec.upto topWovenSpec)

end Rows
end Go.Proofs.Ytefkmdejcdhnjaa
