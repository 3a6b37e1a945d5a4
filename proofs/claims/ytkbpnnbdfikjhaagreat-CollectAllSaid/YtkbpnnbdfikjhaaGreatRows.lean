/-
  No cell of these rows narrows 'for every input' (looked for: loops, veiled, ifaces, maps, wideKeys, modest, calm, conditions, laid).
  DERIVED. THE GIVEN ROWS OF THIS SEAT. 2 by the template 'for every input the law returns true; each argument reads behind the call as it read before'; 0 by the template 'total and deterministic' (their statements: YtkbpnnbdfikjhaaGreatTotals.lean).
  GIVEN WITH THE SEED: the statements are not yours to turn. If you find one false, say at which input.
  Laid BY PROGRAM, IN A SANDBOX (cutbox-rows.mjs): the forced cells as the released guide's own fill.sh prints them over the translation 37285024762728c8… (all of the seat's roots in one cut). By AI agents, Wed Nov 11 2026. No macro, syntax, notation, axiom, sorry.
-/
import Derived.Test.YtkbpnnbdfikjhaaGreatChecked
import GoSem.Claim
import GoSem.ClaimJoined
import GoSem.ClaimMapViews
import Derived.JoinedTies
import Derived.KernelRfl
namespace Go.Proofs.YtkbpnnbdfikjhaaGreat
/- THE CELL 'sum', in the pinned program and in every row, IS THE sha256 OF THE DUMP (.gsa) THAT YtkbpnnbdfikjhaaGreatProg.lean LOADS. Nothing in Lean hashes anything: it is a label: what it is worth is what the hold of that sum in a sandbox is worth. -/
noncomputable def Tryz.pinned : Pinned := { name := "ytkbpnnbdfikjhaagreat", sum := "37285024762728c8e2a94b2149df9a4c4446ec342fe172874fec9b6c3b4a725c", checked := Tryz.checked }
namespace Rows
def none {H : Type} : Left H := { results := [], args := [] }

/-- 'philtrelaw33.CollectKeeps': WHATEVER THE INPUT: true; the input reads as it did. -/
def collectKeepsSpec : ChangeSpec := { name := "collectKeeps", fn := fun _ => fun
  | [d1, d2, d3] => { results := [.lit (.bool true)], args := [d1, d2, d3] }
  | _ => none }
def collectKeepsRow : OpenClaim := { program := "ytkbpnnbdfikjhaagreat", sum := "37285024762728c8e2a94b2149df9a4c4446ec342fe172874fec9b6c3b4a725c", func := "philtre/philtrelaw33.CollectKeeps", spec := "collectKeeps", unfollowed := true, recurses := true, plainKeys := false, apart := false }
def CollectKeepsSaid : Prop := collectKeepsRow.holds Tryz.pinned (OpenSpec.ofChange collectKeepsSpec)

/-- ITS FALSE NEIGHBOUR: 'it returns false'. Refute it at one input. -/
def collectKeepsWrong : ChangeSpec := { name := "collectKeeps", fn := fun _ => fun
  | [d1, d2, d3] => { results := [.lit (.bool false)], args := [d1, d2, d3] }
  | _ => none }
def CollectKeepsWrongFalsely : Prop := collectKeepsRow.holds Tryz.pinned (OpenSpec.ofChange collectKeepsWrong)

/-- 'philtrelaw33.CollectAll': WHATEVER THE INPUT: true; the input reads as it did. -/
def collectAllSpec : ChangeSpec := { name := "collectAll", fn := fun _ => fun
  | [d1, d2, d3] => { results := [.lit (.bool true)], args := [d1, d2, d3] }
  | _ => none }
def collectAllRow : OpenClaim := { program := "ytkbpnnbdfikjhaagreat", sum := "37285024762728c8e2a94b2149df9a4c4446ec342fe172874fec9b6c3b4a725c", func := "philtre/philtrelaw33.CollectAll", spec := "collectAll", unfollowed := true, recurses := true, plainKeys := false, apart := false }
def CollectAllSaid : Prop := collectAllRow.holds Tryz.pinned (OpenSpec.ofChange collectAllSpec)

/-- ITS FALSE NEIGHBOUR: 'it returns false'. Refute it at one input. -/
def collectAllWrong : ChangeSpec := { name := "collectAll", fn := fun _ => fun
  | [d1, d2, d3] => { results := [.lit (.bool false)], args := [d1, d2, d3] }
  | _ => none }
def CollectAllWrongFalsely : Prop := collectAllRow.holds Tryz.pinned (OpenSpec.ofChange collectAllWrong)

/- THE SECOND FORM. 'bulk': how many values and letters a reading holds, each counted each time it is reached (what is shared counts as often as it is met; a slice's spare places count too). A statement '..UptoSaid' is the law's where the arguments, and the package variables that the reading takes, are together of bulk at most 1048576: NARROWER than '..Said'. Prove '..Said' where nothing that the law and all that it calls make is longer than what came in: it says more and counts as full. Else prove '..UptoSaid'. A law counts once. -/
mutual
def uptoBulk {H : Type} : DataW H → Nat
  | .lit (.string bytes) => bytes.length + 1
  | .lit _ => 1
  | .nil => 1
  | .ptr d => uptoBulk d + 1
  | .slice elems spare => uptoBulkAll elems + uptoBulkAll spare + 1
  | .agg parts => uptoBulkAll parts + 1
  | .iface _ d => uptoBulk d + 1
  | .map entries => uptoBulkEntries entries + 1
  | .held _ => 1
def uptoBulkAll {H : Type} : List (DataW H) → Nat
  | [] => 0
  | d :: r => uptoBulk d + uptoBulkAll r
def uptoBulkEntries {H : Type} : List (Lit × DataW H) → Nat
  | [] => 0
  | x :: r => uptoBulkEntry x + uptoBulkEntries r
def uptoBulkEntry {H : Type} : Lit × DataW H → Nat
  | (.string bytes, d) => bytes.length + uptoBulk d + 1
  | (_, d) => uptoBulk d + 1
 end
def uptoSmall : (H : Type) → List (DataW H) → Bool := fun _ ds => decide (uptoBulkAll ds ≤ 1048576)
def OpenSpec.upto (s : _root_.Go.ChangeSpec) : _root_.Go.OpenSpec := { _root_.Go.OpenSpec.ofChange s with cond := some uptoSmall }

/-- 'philtrelaw33.CollectKeeps', WHERE WHAT IT READS IS OF BULK AT MOST 1048576: true; the input reads as it did. -/
def collectKeepsUptoRow : OpenClaim := { program := "ytkbpnnbdfikjhaagreat", sum := "37285024762728c8e2a94b2149df9a4c4446ec342fe172874fec9b6c3b4a725c", func := "philtre/philtrelaw33.CollectKeeps", spec := "collectKeeps", unfollowed := true, recurses := true, plainKeys := false, apart := false, narrowed := true }
def CollectKeepsUptoSaid : Prop := collectKeepsUptoRow.holds Tryz.pinned (OpenSpec.upto collectKeepsSpec)

/-- 'philtrelaw33.CollectAll', WHERE WHAT IT READS IS OF BULK AT MOST 1048576: true; the input reads as it did. -/
def collectAllUptoRow : OpenClaim := { program := "ytkbpnnbdfikjhaagreat", sum := "37285024762728c8e2a94b2149df9a4c4446ec342fe172874fec9b6c3b4a725c", func := "philtre/philtrelaw33.CollectAll", spec := "collectAll", unfollowed := true, recurses := true, plainKeys := false, apart := false, narrowed := true }
def CollectAllUptoSaid : Prop := collectAllUptoRow.holds Tryz.pinned (OpenSpec.upto collectAllSpec)

end Rows
end Go.Proofs.YtkbpnnbdfikjhaaGreat
