/-
  No cell of these rows narrows 'for every input' (looked for: loops, veiled, ifaces, maps, wideKeys, modest, calm, conditions, laid).
  DERIVED. THE GIVEN ROWS OF THIS SEAT. 3 by the template 'for every input the law returns true; each argument reads behind the call as it read before'; 0 by the template 'total and deterministic' (their statements: YtgjnkppjfbcicaaTotals.lean).
  GIVEN WITH THE SEED: the statements are not yours to turn. If you find one false, say at which input.
  Laid BY PROGRAM, IN A SANDBOX (cutbox-rows.mjs): the forced cells as the released guide's own fill.sh prints them over the translation e07a2bf37caaa757… (all of the seat's roots in one cut). By AI agents, Wed Nov 11 2026. No macro, syntax, notation, axiom, sorry.
-/
import Derived.Test.YtgjnkppjfbcicaaChecked
import GoSem.Claim
import GoSem.ClaimJoined
import GoSem.ClaimMapViews
import Derived.JoinedTies
import Derived.KernelRfl
namespace Go.Proofs.Ytgjnkppjfbcicaa
/- THE CELL 'sum', in the pinned program and in every row, IS THE sha256 OF THE DUMP (.gsa) THAT YtgjnkppjfbcicaaProg.lean LOADS. Nothing in Lean hashes anything: it is a label: what it is worth is what the hold of that sum in a sandbox is worth. -/
noncomputable def Try.pinned : Pinned := { name := "ytgjnkppjfbcicaa", sum := "e07a2bf37caaa7571cad81c4a9aaaf6e94802207dbb90cdc97621a8f29c6980c", checked := Try.checked }
namespace Rows
def none {H : Type} : Left H := { results := [], args := [] }

/-- 'gemellaw11.SortedParts': WHATEVER THE INPUT: true; the input reads as it did. -/
def sortedPartsSpec : ChangeSpec := { name := "sortedParts", fn := fun _ => fun
  | [d1, d2, d3] => { results := [.lit (.bool true)], args := [d1, d2, d3] }
  | _ => none }
def sortedPartsRow : OpenClaim := { program := "ytgjnkppjfbcicaa", sum := "e07a2bf37caaa7571cad81c4a9aaaf6e94802207dbb90cdc97621a8f29c6980c", func := "gemel/gemellaw11.SortedParts", spec := "sortedParts", unfollowed := true, recurses := true, apart := false }
def SortedPartsSaid : Prop := sortedPartsRow.holds Try.pinned (OpenSpec.ofChange sortedPartsSpec)

/-- ITS FALSE NEIGHBOUR: 'it returns false'. Refute it at one input. -/
def sortedPartsWrong : ChangeSpec := { name := "sortedParts", fn := fun _ => fun
  | [d1, d2, d3] => { results := [.lit (.bool false)], args := [d1, d2, d3] }
  | _ => none }
def SortedPartsWrongFalsely : Prop := sortedPartsRow.holds Try.pinned (OpenSpec.ofChange sortedPartsWrong)

/-- 'gemellaw11.SortedPlays': WHATEVER THE INPUT: true; the input reads as it did. -/
def sortedPlaysSpec : ChangeSpec := { name := "sortedPlays", fn := fun _ => fun
  | [d] => { results := [.lit (.bool true)], args := [d] }
  | _ => none }
def sortedPlaysRow : OpenClaim := { program := "ytgjnkppjfbcicaa", sum := "e07a2bf37caaa7571cad81c4a9aaaf6e94802207dbb90cdc97621a8f29c6980c", func := "gemel/gemellaw11.SortedPlays", spec := "sortedPlays", unfollowed := true, recurses := true, apart := false }
def SortedPlaysSaid : Prop := sortedPlaysRow.holds Try.pinned (OpenSpec.ofChange sortedPlaysSpec)

/-- ITS FALSE NEIGHBOUR: 'it returns false'. Refute it at one input. -/
def sortedPlaysWrong : ChangeSpec := { name := "sortedPlays", fn := fun _ => fun
  | [d] => { results := [.lit (.bool false)], args := [d] }
  | _ => none }
def SortedPlaysWrongFalsely : Prop := sortedPlaysRow.holds Try.pinned (OpenSpec.ofChange sortedPlaysWrong)

/-- 'gemellaw11.SortedApart': WHATEVER THE INPUT: true; the input reads as it did. -/
def sortedApartSpec : ChangeSpec := { name := "sortedApart", fn := fun _ => fun
  | [d1, d2] => { results := [.lit (.bool true)], args := [d1, d2] }
  | _ => none }
def sortedApartRow : OpenClaim := { program := "ytgjnkppjfbcicaa", sum := "e07a2bf37caaa7571cad81c4a9aaaf6e94802207dbb90cdc97621a8f29c6980c", func := "gemel/gemellaw11.SortedApart", spec := "sortedApart", unfollowed := true, recurses := true, apart := false }
def SortedApartSaid : Prop := sortedApartRow.holds Try.pinned (OpenSpec.ofChange sortedApartSpec)

/-- ITS FALSE NEIGHBOUR: 'it returns false'. Refute it at one input. -/
def sortedApartWrong : ChangeSpec := { name := "sortedApart", fn := fun _ => fun
  | [d1, d2] => { results := [.lit (.bool false)], args := [d1, d2] }
  | _ => none }
def SortedApartWrongFalsely : Prop := sortedApartRow.holds Try.pinned (OpenSpec.ofChange sortedApartWrong)

/- THE SECOND FORM. 'bulk': how many values and letters a reading holds, each counted each time it is reached (what is shared counts as often as it is met; a slice's spare places count too). A statement '..UptoSaid' is the law's where the arguments, and the package variables that the reading takes, are together of bulk at most 1048576: NARROWER than '..Said'. Prove '..Said' where nothing that the law and all that it calls make is longer than what came in: it says more and counts as full. Else prove '..UptoSaid'. A law counts once. -/
mutual
def uptoBulk {H : Type} : DataW H → Nat
  | .lit (.string bytes) => bytes.length + 1
  | .lit _ => 1
  | .nil => 1
  | .ptr d => uptoBulk d + 1
  | .slice elems spare => uptoBulkAll elems + uptoBulkAll spare + 1
  | .agg parts => uptoBulkAll parts + 1
  | .iface _ d => uptoBulk d + 1
  | .map entries => uptoBulkEntries entries + 1
  | .held _ => 1
def uptoBulkAll {H : Type} : List (DataW H) → Nat
  | [] => 0
  | d :: r => uptoBulk d + uptoBulkAll r
def uptoBulkEntries {H : Type} : List (Lit × DataW H) → Nat
  | [] => 0
  | x :: r => uptoBulkEntry x + uptoBulkEntries r
def uptoBulkEntry {H : Type} : Lit × DataW H → Nat
  | (.string bytes, d) => bytes.length + uptoBulk d + 1
  | (_, d) => uptoBulk d + 1
 end
def uptoSmall : (H : Type) → List (DataW H) → Bool := fun _ ds => decide (uptoBulkAll ds ≤ 1048576)
def OpenSpec.upto (s : _root_.Go.ChangeSpec) : _root_.Go.OpenSpec := { _root_.Go.OpenSpec.ofChange s with cond := some uptoSmall }

/-- 'gemellaw11.SortedParts', WHERE WHAT IT READS IS OF BULK AT MOST 1048576: true; the input reads as it did. -/
def sortedPartsUptoRow : OpenClaim := { program := "ytgjnkppjfbcicaa", sum := "e07a2bf37caaa7571cad81c4a9aaaf6e94802207dbb90cdc97621a8f29c6980c", func := "gemel/gemellaw11.SortedParts", spec := "sortedParts", unfollowed := true, recurses := true, apart := false, narrowed := true }
def SortedPartsUptoSaid : Prop := sortedPartsUptoRow.holds Try.pinned (OpenSpec.upto sortedPartsSpec)

/-- 'gemellaw11.SortedPlays', WHERE WHAT IT READS IS OF BULK AT MOST 1048576: true; the input reads as it did. -/
def sortedPlaysUptoRow : OpenClaim := { program := "ytgjnkppjfbcicaa", sum := "e07a2bf37caaa7571cad81c4a9aaaf6e94802207dbb90cdc97621a8f29c6980c", func := "gemel/gemellaw11.SortedPlays", spec := "sortedPlays", unfollowed := true, recurses := true, apart := false, narrowed := true }
def SortedPlaysUptoSaid : Prop := sortedPlaysUptoRow.holds Try.pinned (OpenSpec.upto sortedPlaysSpec)

/-- 'gemellaw11.SortedApart', WHERE WHAT IT READS IS OF BULK AT MOST 1048576: true; the input reads as it did. -/
def sortedApartUptoRow : OpenClaim := { program := "ytgjnkppjfbcicaa", sum := "e07a2bf37caaa7571cad81c4a9aaaf6e94802207dbb90cdc97621a8f29c6980c", func := "gemel/gemellaw11.SortedApart", spec := "sortedApart", unfollowed := true, recurses := true, apart := false, narrowed := true }
def SortedApartUptoSaid : Prop := sortedApartUptoRow.holds Try.pinned (OpenSpec.upto sortedApartSpec)

end Rows
end Go.Proofs.Ytgjnkppjfbcicaa
