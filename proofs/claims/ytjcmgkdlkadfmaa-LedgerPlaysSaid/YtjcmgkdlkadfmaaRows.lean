/-
  No cell of these rows narrows 'for every input' (looked for: loops, veiled, ifaces, maps, wideKeys, modest, calm, conditions, laid).
  DERIVED. THE GIVEN ROWS OF THIS SEAT. 10 by the template 'for every input the law returns true; each argument reads behind the call as it read before'; 0 by the template 'total and deterministic' (their statements: YtjcmgkdlkadfmaaTotals.lean).
  GIVEN WITH THE SEED: the statements are not yours to turn. If you find one false, say at which input.
  Laid BY PROGRAM, IN A SANDBOX (cutbox-rows.mjs): the forced cells as the released guide's own fill.sh prints them over the translation 7b96ea43ffada4c5… (all of the seat's roots in one cut). By AI agents, Wed Nov 11 2026. No macro, syntax, notation, axiom, sorry.
-/
import Derived.Test.YtjcmgkdlkadfmaaChecked
import GoSem.Claim
import GoSem.ClaimJoined
import GoSem.ClaimMapViews
import Derived.JoinedTies
import Derived.KernelRfl
namespace Go.Proofs.Ytjcmgkdlkadfmaa
/- THE CELL 'sum', in the pinned program and in every row, IS THE sha256 OF THE DUMP (.gsa) THAT YtjcmgkdlkadfmaaProg.lean LOADS. Nothing in Lean hashes anything: it is a label: what it is worth is what the hold of that sum in a sandbox is worth. -/
noncomputable def Try.pinned : Pinned := { name := "ytjcmgkdlkadfmaa", sum := "7b96ea43ffada4c55aef3598b0254358b3a66f5c7407719d3454cee7eb5d5df9", checked := Try.checked }
namespace Rows
def none {H : Type} : Left H := { results := [], args := [] }

/-- 'spandrellaw11.LedgerFresh': WHATEVER THE INPUT: true; the input reads as it did. -/
def ledgerFreshSpec : ChangeSpec := { name := "ledgerFresh", fn := fun _ => fun
  | [d1, d2, d3] => { results := [.lit (.bool true)], args := [d1, d2, d3] }
  | _ => none }
def ledgerFreshRow : OpenClaim := { program := "ytjcmgkdlkadfmaa", sum := "7b96ea43ffada4c55aef3598b0254358b3a66f5c7407719d3454cee7eb5d5df9", func := "spandrel/spandrellaw11.LedgerFresh", spec := "ledgerFresh", apart := false }
def LedgerFreshSaid : Prop := ledgerFreshRow.holds Try.pinned (OpenSpec.ofChange ledgerFreshSpec)

/-- ITS FALSE NEIGHBOUR: 'it returns false'. Refute it at one input. -/
def ledgerFreshWrong : ChangeSpec := { name := "ledgerFresh", fn := fun _ => fun
  | [d1, d2, d3] => { results := [.lit (.bool false)], args := [d1, d2, d3] }
  | _ => none }
def LedgerFreshWrongFalsely : Prop := ledgerFreshRow.holds Try.pinned (OpenSpec.ofChange ledgerFreshWrong)

/-- 'spandrellaw11.LedgerOrder': WHATEVER THE INPUT: true; the input reads as it did. -/
def ledgerOrderSpec : ChangeSpec := { name := "ledgerOrder", fn := fun _ => fun
  | [d1, d2, d3] => { results := [.lit (.bool true)], args := [d1, d2, d3] }
  | _ => none }
def ledgerOrderRow : OpenClaim := { program := "ytjcmgkdlkadfmaa", sum := "7b96ea43ffada4c55aef3598b0254358b3a66f5c7407719d3454cee7eb5d5df9", func := "spandrel/spandrellaw11.LedgerOrder", spec := "ledgerOrder", unfollowed := true, recurses := true, apart := false }
def LedgerOrderSaid : Prop := ledgerOrderRow.holds Try.pinned (OpenSpec.ofChange ledgerOrderSpec)

/-- ITS FALSE NEIGHBOUR: 'it returns false'. Refute it at one input. -/
def ledgerOrderWrong : ChangeSpec := { name := "ledgerOrder", fn := fun _ => fun
  | [d1, d2, d3] => { results := [.lit (.bool false)], args := [d1, d2, d3] }
  | _ => none }
def LedgerOrderWrongFalsely : Prop := ledgerOrderRow.holds Try.pinned (OpenSpec.ofChange ledgerOrderWrong)

/-- 'spandrellaw11.LedgerHints': WHATEVER THE INPUT: true; the input reads as it did. -/
def ledgerHintsSpec : ChangeSpec := { name := "ledgerHints", fn := fun _ => fun
  | [d1, d2] => { results := [.lit (.bool true)], args := [d1, d2] }
  | _ => none }
def ledgerHintsRow : OpenClaim := { program := "ytjcmgkdlkadfmaa", sum := "7b96ea43ffada4c55aef3598b0254358b3a66f5c7407719d3454cee7eb5d5df9", func := "spandrel/spandrellaw11.LedgerHints", spec := "ledgerHints", apart := false }
def LedgerHintsSaid : Prop := ledgerHintsRow.holds Try.pinned (OpenSpec.ofChange ledgerHintsSpec)

/-- ITS FALSE NEIGHBOUR: 'it returns false'. Refute it at one input. -/
def ledgerHintsWrong : ChangeSpec := { name := "ledgerHints", fn := fun _ => fun
  | [d1, d2] => { results := [.lit (.bool false)], args := [d1, d2] }
  | _ => none }
def LedgerHintsWrongFalsely : Prop := ledgerHintsRow.holds Try.pinned (OpenSpec.ofChange ledgerHintsWrong)

/-- 'spandrellaw11.LedgerMakes': WHATEVER THE INPUT: true; the input reads as it did. -/
def ledgerMakesSpec : ChangeSpec := { name := "ledgerMakes", fn := fun _ => fun
  | [d1, d2, d3] => { results := [.lit (.bool true)], args := [d1, d2, d3] }
  | _ => none }
def ledgerMakesRow : OpenClaim := { program := "ytjcmgkdlkadfmaa", sum := "7b96ea43ffada4c55aef3598b0254358b3a66f5c7407719d3454cee7eb5d5df9", func := "spandrel/spandrellaw11.LedgerMakes", spec := "ledgerMakes", apart := false }
def LedgerMakesSaid : Prop := ledgerMakesRow.holds Try.pinned (OpenSpec.ofChange ledgerMakesSpec)

/-- ITS FALSE NEIGHBOUR: 'it returns false'. Refute it at one input. -/
def ledgerMakesWrong : ChangeSpec := { name := "ledgerMakes", fn := fun _ => fun
  | [d1, d2, d3] => { results := [.lit (.bool false)], args := [d1, d2, d3] }
  | _ => none }
def LedgerMakesWrongFalsely : Prop := ledgerMakesRow.holds Try.pinned (OpenSpec.ofChange ledgerMakesWrong)

/-- 'spandrellaw11.LedgerMerges': WHATEVER THE INPUT: true; the input reads as it did. -/
def ledgerMergesSpec : ChangeSpec := { name := "ledgerMerges", fn := fun _ => fun
  | [d1, d2, d3, d4] => { results := [.lit (.bool true)], args := [d1, d2, d3, d4] }
  | _ => none }
def ledgerMergesRow : OpenClaim := { program := "ytjcmgkdlkadfmaa", sum := "7b96ea43ffada4c55aef3598b0254358b3a66f5c7407719d3454cee7eb5d5df9", func := "spandrel/spandrellaw11.LedgerMerges", spec := "ledgerMerges", apart := false }
def LedgerMergesSaid : Prop := ledgerMergesRow.holds Try.pinned (OpenSpec.ofChange ledgerMergesSpec)

/-- ITS FALSE NEIGHBOUR: 'it returns false'. Refute it at one input. -/
def ledgerMergesWrong : ChangeSpec := { name := "ledgerMerges", fn := fun _ => fun
  | [d1, d2, d3, d4] => { results := [.lit (.bool false)], args := [d1, d2, d3, d4] }
  | _ => none }
def LedgerMergesWrongFalsely : Prop := ledgerMergesRow.holds Try.pinned (OpenSpec.ofChange ledgerMergesWrong)

/-- 'spandrellaw11.LedgerMerged': WHATEVER THE INPUT: true; the input reads as it did. -/
def ledgerMergedSpec : ChangeSpec := { name := "ledgerMerged", fn := fun _ => fun
  | [d1, d2, d3, d4] => { results := [.lit (.bool true)], args := [d1, d2, d3, d4] }
  | _ => none }
def ledgerMergedRow : OpenClaim := { program := "ytjcmgkdlkadfmaa", sum := "7b96ea43ffada4c55aef3598b0254358b3a66f5c7407719d3454cee7eb5d5df9", func := "spandrel/spandrellaw11.LedgerMerged", spec := "ledgerMerged", apart := false }
def LedgerMergedSaid : Prop := ledgerMergedRow.holds Try.pinned (OpenSpec.ofChange ledgerMergedSpec)

/-- ITS FALSE NEIGHBOUR: 'it returns false'. Refute it at one input. -/
def ledgerMergedWrong : ChangeSpec := { name := "ledgerMerged", fn := fun _ => fun
  | [d1, d2, d3, d4] => { results := [.lit (.bool false)], args := [d1, d2, d3, d4] }
  | _ => none }
def LedgerMergedWrongFalsely : Prop := ledgerMergedRow.holds Try.pinned (OpenSpec.ofChange ledgerMergedWrong)

/-- 'spandrellaw11.LedgerRefused': WHATEVER THE INPUT: true; the input reads as it did. -/
def ledgerRefusedSpec : ChangeSpec := { name := "ledgerRefused", fn := fun _ => fun
  | [d1, d2] => { results := [.lit (.bool true)], args := [d1, d2] }
  | _ => none }
def ledgerRefusedRow : OpenClaim := { program := "ytjcmgkdlkadfmaa", sum := "7b96ea43ffada4c55aef3598b0254358b3a66f5c7407719d3454cee7eb5d5df9", func := "spandrel/spandrellaw11.LedgerRefused", spec := "ledgerRefused", apart := false }
def LedgerRefusedSaid : Prop := ledgerRefusedRow.holds Try.pinned (OpenSpec.ofChange ledgerRefusedSpec)

/-- ITS FALSE NEIGHBOUR: 'it returns false'. Refute it at one input. -/
def ledgerRefusedWrong : ChangeSpec := { name := "ledgerRefused", fn := fun _ => fun
  | [d1, d2] => { results := [.lit (.bool false)], args := [d1, d2] }
  | _ => none }
def LedgerRefusedWrongFalsely : Prop := ledgerRefusedRow.holds Try.pinned (OpenSpec.ofChange ledgerRefusedWrong)

/-- 'spandrellaw11.LedgerPlays': WHATEVER THE INPUT: true; the input reads as it did. -/
def ledgerPlaysSpec : ChangeSpec := { name := "ledgerPlays", fn := fun _ => fun
  | [d1, d2] => { results := [.lit (.bool true)], args := [d1, d2] }
  | _ => none }
def ledgerPlaysRow : OpenClaim := { program := "ytjcmgkdlkadfmaa", sum := "7b96ea43ffada4c55aef3598b0254358b3a66f5c7407719d3454cee7eb5d5df9", func := "spandrel/spandrellaw11.LedgerPlays", spec := "ledgerPlays", apart := false }
def LedgerPlaysSaid : Prop := ledgerPlaysRow.holds Try.pinned (OpenSpec.ofChange ledgerPlaysSpec)

/-- ITS FALSE NEIGHBOUR: 'it returns false'. Refute it at one input. -/
def ledgerPlaysWrong : ChangeSpec := { name := "ledgerPlays", fn := fun _ => fun
  | [d1, d2] => { results := [.lit (.bool false)], args := [d1, d2] }
  | _ => none }
def LedgerPlaysWrongFalsely : Prop := ledgerPlaysRow.holds Try.pinned (OpenSpec.ofChange ledgerPlaysWrong)

/-- 'spandrellaw11.LedgerTwins': WHATEVER THE INPUT: true; the input reads as it did. -/
def ledgerTwinsSpec : ChangeSpec := { name := "ledgerTwins", fn := fun _ => fun
  | [d1, d2] => { results := [.lit (.bool true)], args := [d1, d2] }
  | _ => none }
def ledgerTwinsRow : OpenClaim := { program := "ytjcmgkdlkadfmaa", sum := "7b96ea43ffada4c55aef3598b0254358b3a66f5c7407719d3454cee7eb5d5df9", func := "spandrel/spandrellaw11.LedgerTwins", spec := "ledgerTwins", apart := false }
def LedgerTwinsSaid : Prop := ledgerTwinsRow.holds Try.pinned (OpenSpec.ofChange ledgerTwinsSpec)

/-- ITS FALSE NEIGHBOUR: 'it returns false'. Refute it at one input. -/
def ledgerTwinsWrong : ChangeSpec := { name := "ledgerTwins", fn := fun _ => fun
  | [d1, d2] => { results := [.lit (.bool false)], args := [d1, d2] }
  | _ => none }
def LedgerTwinsWrongFalsely : Prop := ledgerTwinsRow.holds Try.pinned (OpenSpec.ofChange ledgerTwinsWrong)

/-- 'spandrellaw11.LedgerNobody': WHATEVER THE INPUT: true; the input reads as it did. -/
def ledgerNobodySpec : ChangeSpec := { name := "ledgerNobody", fn := fun _ => fun
  | [d] => { results := [.lit (.bool true)], args := [d] }
  | _ => none }
def ledgerNobodyRow : OpenClaim := { program := "ytjcmgkdlkadfmaa", sum := "7b96ea43ffada4c55aef3598b0254358b3a66f5c7407719d3454cee7eb5d5df9", func := "spandrel/spandrellaw11.LedgerNobody", spec := "ledgerNobody", apart := false }
def LedgerNobodySaid : Prop := ledgerNobodyRow.holds Try.pinned (OpenSpec.ofChange ledgerNobodySpec)

/-- ITS FALSE NEIGHBOUR: 'it returns false'. Refute it at one input. -/
def ledgerNobodyWrong : ChangeSpec := { name := "ledgerNobody", fn := fun _ => fun
  | [d] => { results := [.lit (.bool false)], args := [d] }
  | _ => none }
def LedgerNobodyWrongFalsely : Prop := ledgerNobodyRow.holds Try.pinned (OpenSpec.ofChange ledgerNobodyWrong)

/- THE SECOND FORM. 'bulk': how many values and letters a reading holds, each counted each time it is reached (what is shared counts as often as it is met; a slice's spare places count too). A statement '..UptoSaid' is the law's where the arguments, and the package variables that the reading takes, are together of bulk at most 1048576: NARROWER than '..Said'. Prove '..Said' where nothing that the law and all that it calls make is longer than what came in: it says more and counts as full. Else prove '..UptoSaid'. A law counts once. -/
mutual
def uptoBulk {H : Type} : DataW H → Nat
  | .lit (.string bytes) => bytes.length + 1
  | .lit _ => 1
  | .nil => 1
  | .ptr d => uptoBulk d + 1
  | .slice elems spare => uptoBulkAll elems + uptoBulkAll spare + 1
  | .agg parts => uptoBulkAll parts + 1
  | .iface _ d => uptoBulk d + 1
  | .map entries => uptoBulkEntries entries + 1
  | .held _ => 1
def uptoBulkAll {H : Type} : List (DataW H) → Nat
  | [] => 0
  | d :: r => uptoBulk d + uptoBulkAll r
def uptoBulkEntries {H : Type} : List (Lit × DataW H) → Nat
  | [] => 0
  | x :: r => uptoBulkEntry x + uptoBulkEntries r
def uptoBulkEntry {H : Type} : Lit × DataW H → Nat
  | (.string bytes, d) => bytes.length + uptoBulk d + 1
  | (_, d) => uptoBulk d + 1
 end
def uptoSmall : (H : Type) → List (DataW H) → Bool := fun _ ds => decide (uptoBulkAll ds ≤ 1048576)
def OpenSpec.upto (s : _root_.Go.ChangeSpec) : _root_.Go.OpenSpec := { _root_.Go.OpenSpec.ofChange s with cond := some uptoSmall }

/-- 'spandrellaw11.LedgerFresh', WHERE WHAT IT READS IS OF BULK AT MOST 1048576: true; the input reads as it did. -/
def ledgerFreshUptoRow : OpenClaim := { program := "ytjcmgkdlkadfmaa", sum := "7b96ea43ffada4c55aef3598b0254358b3a66f5c7407719d3454cee7eb5d5df9", func := "spandrel/spandrellaw11.LedgerFresh", spec := "ledgerFresh", apart := false, narrowed := true }
def LedgerFreshUptoSaid : Prop := ledgerFreshUptoRow.holds Try.pinned (OpenSpec.upto ledgerFreshSpec)

/-- 'spandrellaw11.LedgerOrder', WHERE WHAT IT READS IS OF BULK AT MOST 1048576: true; the input reads as it did. -/
def ledgerOrderUptoRow : OpenClaim := { program := "ytjcmgkdlkadfmaa", sum := "7b96ea43ffada4c55aef3598b0254358b3a66f5c7407719d3454cee7eb5d5df9", func := "spandrel/spandrellaw11.LedgerOrder", spec := "ledgerOrder", unfollowed := true, recurses := true, apart := false, narrowed := true }
def LedgerOrderUptoSaid : Prop := ledgerOrderUptoRow.holds Try.pinned (OpenSpec.upto ledgerOrderSpec)

/-- 'spandrellaw11.LedgerHints', WHERE WHAT IT READS IS OF BULK AT MOST 1048576: true; the input reads as it did. -/
def ledgerHintsUptoRow : OpenClaim := { program := "ytjcmgkdlkadfmaa", sum := "7b96ea43ffada4c55aef3598b0254358b3a66f5c7407719d3454cee7eb5d5df9", func := "spandrel/spandrellaw11.LedgerHints", spec := "ledgerHints", apart := false, narrowed := true }
def LedgerHintsUptoSaid : Prop := ledgerHintsUptoRow.holds Try.pinned (OpenSpec.upto ledgerHintsSpec)

/-- 'spandrellaw11.LedgerMakes', WHERE WHAT IT READS IS OF BULK AT MOST 1048576: true; the input reads as it did. -/
def ledgerMakesUptoRow : OpenClaim := { program := "ytjcmgkdlkadfmaa", sum := "7b96ea43ffada4c55aef3598b0254358b3a66f5c7407719d3454cee7eb5d5df9", func := "spandrel/spandrellaw11.LedgerMakes", spec := "ledgerMakes", apart := false, narrowed := true }
def LedgerMakesUptoSaid : Prop := ledgerMakesUptoRow.holds Try.pinned (OpenSpec.upto ledgerMakesSpec)

/-- 'spandrellaw11.LedgerMerges', WHERE WHAT IT READS IS OF BULK AT MOST 1048576: true; the input reads as it did. -/
def ledgerMergesUptoRow : OpenClaim := { program := "ytjcmgkdlkadfmaa", sum := "7b96ea43ffada4c55aef3598b0254358b3a66f5c7407719d3454cee7eb5d5df9", func := "spandrel/spandrellaw11.LedgerMerges", spec := "ledgerMerges", apart := false, narrowed := true }
def LedgerMergesUptoSaid : Prop := ledgerMergesUptoRow.holds Try.pinned (OpenSpec.upto ledgerMergesSpec)

/-- 'spandrellaw11.LedgerMerged', WHERE WHAT IT READS IS OF BULK AT MOST 1048576: true; the input reads as it did. -/
def ledgerMergedUptoRow : OpenClaim := { program := "ytjcmgkdlkadfmaa", sum := "7b96ea43ffada4c55aef3598b0254358b3a66f5c7407719d3454cee7eb5d5df9", func := "spandrel/spandrellaw11.LedgerMerged", spec := "ledgerMerged", apart := false, narrowed := true }
def LedgerMergedUptoSaid : Prop := ledgerMergedUptoRow.holds Try.pinned (OpenSpec.upto ledgerMergedSpec)

/-- 'spandrellaw11.LedgerRefused', WHERE WHAT IT READS IS OF BULK AT MOST 1048576: true; the input reads as it did. -/
def ledgerRefusedUptoRow : OpenClaim := { program := "ytjcmgkdlkadfmaa", sum := "7b96ea43ffada4c55aef3598b0254358b3a66f5c7407719d3454cee7eb5d5df9", func := "spandrel/spandrellaw11.LedgerRefused", spec := "ledgerRefused", apart := false, narrowed := true }
def LedgerRefusedUptoSaid : Prop := ledgerRefusedUptoRow.holds Try.pinned (OpenSpec.upto ledgerRefusedSpec)

/-- 'spandrellaw11.LedgerPlays', WHERE WHAT IT READS IS OF BULK AT MOST 1048576: true; the input reads as it did. -/
def ledgerPlaysUptoRow : OpenClaim := { program := "ytjcmgkdlkadfmaa", sum := "7b96ea43ffada4c55aef3598b0254358b3a66f5c7407719d3454cee7eb5d5df9", func := "spandrel/spandrellaw11.LedgerPlays", spec := "ledgerPlays", apart := false, narrowed := true }
def LedgerPlaysUptoSaid : Prop := ledgerPlaysUptoRow.holds Try.pinned (OpenSpec.upto ledgerPlaysSpec)

/-- 'spandrellaw11.LedgerTwins', WHERE WHAT IT READS IS OF BULK AT MOST 1048576: true; the input reads as it did. -/
def ledgerTwinsUptoRow : OpenClaim := { program := "ytjcmgkdlkadfmaa", sum := "7b96ea43ffada4c55aef3598b0254358b3a66f5c7407719d3454cee7eb5d5df9", func := "spandrel/spandrellaw11.LedgerTwins", spec := "ledgerTwins", apart := false, narrowed := true }
def LedgerTwinsUptoSaid : Prop := ledgerTwinsUptoRow.holds Try.pinned (OpenSpec.upto ledgerTwinsSpec)

/-- 'spandrellaw11.LedgerNobody', WHERE WHAT IT READS IS OF BULK AT MOST 1048576: true; the input reads as it did. -/
def ledgerNobodyUptoRow : OpenClaim := { program := "ytjcmgkdlkadfmaa", sum := "7b96ea43ffada4c55aef3598b0254358b3a66f5c7407719d3454cee7eb5d5df9", func := "spandrel/spandrellaw11.LedgerNobody", spec := "ledgerNobody", apart := false, narrowed := true }
def LedgerNobodyUptoSaid : Prop := ledgerNobodyUptoRow.holds Try.pinned (OpenSpec.upto ledgerNobodySpec)

end Rows
end Go.Proofs.Ytjcmgkdlkadfmaa
