/-
  No cell of these rows narrows 'for every input' (looked for: loops, veiled, ifaces, maps, wideKeys, modest, calm, conditions, laid).
  DERIVED. THE GIVEN ROWS OF THIS SEAT. 3 by the template 'for every input the law returns true; each argument reads behind the call as it read before'; 0 by the template 'total and deterministic' (their statements: YtepdflohpondbaaTotals.lean).
  GIVEN WITH THE SEED: the statements are not yours to turn. If you find one false, say at which input.
  Laid BY PROGRAM, IN A SANDBOX (cutbox-rows.mjs): the forced cells as the released guide's own fill.sh prints them over the translation af9663bc58c8985f… (all of the seat's roots in one cut). By AI agents, Wed Nov 11 2026. No macro, syntax, notation, axiom, sorry.
-/
import Derived.Test.YtepdflohpondbaaChecked
import GoSem.Claim
import GoSem.ClaimJoined
import GoSem.ClaimMapViews
import Derived.JoinedTies
import Derived.KernelRfl
namespace Go.Proofs.Ytepdflohpondbaa
/- THE CELL 'sum', in the pinned program and in every row, IS THE sha256 OF THE DUMP (.gsa) THAT YtepdflohpondbaaProg.lean LOADS. Nothing in Lean hashes anything: it is a label: what it is worth is what the hold of that sum in a sandbox is worth. -/
noncomputable def Try.pinned : Pinned := { name := "ytepdflohpondbaa", sum := "af9663bc58c8985f06761c21769c56483c410a44da37fe12b47f8d5a894f20c1", checked := Try.checked }
namespace Rows
def none {H : Type} : Left H := { results := [], args := [] }

/-- 'floodgatelaw16.TxnNames': WHATEVER THE INPUT: true; the input reads as it did. -/
def txnNamesSpec : ChangeSpec := { name := "txnNames", fn := fun _ => fun
  | [] => { results := [.lit (.bool true)], args := [] }
  | _ => none }
def txnNamesRow : OpenClaim := { program := "ytepdflohpondbaa", sum := "af9663bc58c8985f06761c21769c56483c410a44da37fe12b47f8d5a894f20c1", func := "floodgate/floodgatelaw16.TxnNames", spec := "txnNames", unfollowed := true, recurses := true, plainKeys := false, apart := false }
def TxnNamesSaid : Prop := txnNamesRow.holds Try.pinned (OpenSpec.ofChange txnNamesSpec)

/-- ITS FALSE NEIGHBOUR: 'it returns false'. Refute it at one input. -/
def txnNamesWrong : ChangeSpec := { name := "txnNames", fn := fun _ => fun
  | [] => { results := [.lit (.bool false)], args := [] }
  | _ => none }
def TxnNamesWrongFalsely : Prop := txnNamesRow.holds Try.pinned (OpenSpec.ofChange txnNamesWrong)

/-- 'floodgatelaw16.TxnFolds': WHATEVER THE INPUT: true; the input reads as it did. -/
def txnFoldsSpec : ChangeSpec := { name := "txnFolds", fn := fun _ => fun
  | [d1, d2] => { results := [.lit (.bool true)], args := [d1, d2] }
  | _ => none }
def txnFoldsRow : OpenClaim := { program := "ytepdflohpondbaa", sum := "af9663bc58c8985f06761c21769c56483c410a44da37fe12b47f8d5a894f20c1", func := "floodgate/floodgatelaw16.TxnFolds", spec := "txnFolds", unfollowed := true, recurses := true, plainKeys := false, apart := false }
def TxnFoldsSaid : Prop := txnFoldsRow.holds Try.pinned (OpenSpec.ofChange txnFoldsSpec)

/-- ITS FALSE NEIGHBOUR: 'it returns false'. Refute it at one input. -/
def txnFoldsWrong : ChangeSpec := { name := "txnFolds", fn := fun _ => fun
  | [d1, d2] => { results := [.lit (.bool false)], args := [d1, d2] }
  | _ => none }
def TxnFoldsWrongFalsely : Prop := txnFoldsRow.holds Try.pinned (OpenSpec.ofChange txnFoldsWrong)

/-- 'floodgatelaw16.TxnOrder': WHATEVER THE INPUT: true; the input reads as it did. -/
def txnOrderSpec : ChangeSpec := { name := "txnOrder", fn := fun _ => fun
  | [d1, d2, d3] => { results := [.lit (.bool true)], args := [d1, d2, d3] }
  | _ => none }
def txnOrderRow : OpenClaim := { program := "ytepdflohpondbaa", sum := "af9663bc58c8985f06761c21769c56483c410a44da37fe12b47f8d5a894f20c1", func := "floodgate/floodgatelaw16.TxnOrder", spec := "txnOrder", unfollowed := true, recurses := true, plainKeys := false, apart := false }
def TxnOrderSaid : Prop := txnOrderRow.holds Try.pinned (OpenSpec.ofChange txnOrderSpec)

/-- ITS FALSE NEIGHBOUR: 'it returns false'. Refute it at one input. -/
def txnOrderWrong : ChangeSpec := { name := "txnOrder", fn := fun _ => fun
  | [d1, d2, d3] => { results := [.lit (.bool false)], args := [d1, d2, d3] }
  | _ => none }
def TxnOrderWrongFalsely : Prop := txnOrderRow.holds Try.pinned (OpenSpec.ofChange txnOrderWrong)

/- THE SECOND FORM. 'bulk': how many values and letters a reading holds, each counted each time it is reached (what is shared counts as often as it is met; a slice's spare places count too). A statement '..UptoSaid' is the law's where the arguments, and the package variables that the reading takes, are together of bulk at most 1048576: NARROWER than '..Said'. Prove '..Said' where nothing that the law and all that it calls make is longer than what came in: it says more and counts as full. Else prove '..UptoSaid'. A law counts once. -/
mutual
def uptoBulk {H : Type} : DataW H → Nat
  | .lit (.string bytes) => bytes.length + 1
  | .lit _ => 1
  | .nil => 1
  | .ptr d => uptoBulk d + 1
  | .slice elems spare => uptoBulkAll elems + uptoBulkAll spare + 1
  | .agg parts => uptoBulkAll parts + 1
  | .iface _ d => uptoBulk d + 1
  | .map entries => uptoBulkEntries entries + 1
  | .held _ => 1
def uptoBulkAll {H : Type} : List (DataW H) → Nat
  | [] => 0
  | d :: r => uptoBulk d + uptoBulkAll r
def uptoBulkEntries {H : Type} : List (Lit × DataW H) → Nat
  | [] => 0
  | x :: r => uptoBulkEntry x + uptoBulkEntries r
def uptoBulkEntry {H : Type} : Lit × DataW H → Nat
  | (.string bytes, d) => bytes.length + uptoBulk d + 1
  | (_, d) => uptoBulk d + 1
 end
def uptoSmall : (H : Type) → List (DataW H) → Bool := fun _ ds => decide (uptoBulkAll ds ≤ 1048576)
def OpenSpec.upto (s : _root_.Go.ChangeSpec) : _root_.Go.OpenSpec := { _root_.Go.OpenSpec.ofChange s with cond := some uptoSmall }

/-- 'floodgatelaw16.TxnNames', WHERE WHAT IT READS IS OF BULK AT MOST 1048576: true; the input reads as it did. -/
def txnNamesUptoRow : OpenClaim := { program := "ytepdflohpondbaa", sum := "af9663bc58c8985f06761c21769c56483c410a44da37fe12b47f8d5a894f20c1", func := "floodgate/floodgatelaw16.TxnNames", spec := "txnNames", unfollowed := true, recurses := true, plainKeys := false, apart := false, narrowed := true }
def TxnNamesUptoSaid : Prop := txnNamesUptoRow.holds Try.pinned (OpenSpec.upto txnNamesSpec)

/-- 'floodgatelaw16.TxnFolds', WHERE WHAT IT READS IS OF BULK AT MOST 1048576: true; the input reads as it did. -/
def txnFoldsUptoRow : OpenClaim := { program := "ytepdflohpondbaa", sum := "af9663bc58c8985f06761c21769c56483c410a44da37fe12b47f8d5a894f20c1", func := "floodgate/floodgatelaw16.TxnFolds", spec := "txnFolds", unfollowed := true, recurses := true, plainKeys := false, apart := false, narrowed := true }
def TxnFoldsUptoSaid : Prop := txnFoldsUptoRow.holds Try.pinned (OpenSpec.upto txnFoldsSpec)

/-- 'floodgatelaw16.TxnOrder', WHERE WHAT IT READS IS OF BULK AT MOST 1048576: true; the input reads as it did. -/
def txnOrderUptoRow : OpenClaim := { program := "ytepdflohpondbaa", sum := "af9663bc58c8985f06761c21769c56483c410a44da37fe12b47f8d5a894f20c1", func := "floodgate/floodgatelaw16.TxnOrder", spec := "txnOrder", unfollowed := true, recurses := true, plainKeys := false, apart := false, narrowed := true }
def TxnOrderUptoSaid : Prop := txnOrderUptoRow.holds Try.pinned (OpenSpec.upto txnOrderSpec)

end Rows
end Go.Proofs.Ytepdflohpondbaa
