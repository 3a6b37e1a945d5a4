/-
  No cell of these rows narrows 'for every input' (looked for: loops, veiled, ifaces, maps, wideKeys, modest, calm, conditions, laid).
  DERIVED. THE GIVEN ROWS OF THIS SEAT. 3 by the template 'for every input the law returns true; each argument reads behind the call as it read before'; 0 by the template 'total and deterministic' (their statements: YteddhilaehfgbaaTotals.lean).
  GIVEN WITH THE SEED: the statements are not yours to turn. If you find one false, say at which input.
  Laid BY PROGRAM, IN A SANDBOX (cutbox-rows.mjs): the forced cells as the released guide's own fill.sh prints them over the translation f065bfc0fd65fd70… (all of the seat's roots in one cut). By AI agents, Wed Nov 11 2026. No macro, syntax, notation, axiom, sorry.
-/
import Derived.Test.YteddhilaehfgbaaChecked
import GoSem.Claim
import GoSem.ClaimJoined
import GoSem.ClaimMapViews
import Derived.JoinedTies
import Derived.KernelRfl
namespace Go.Proofs.Yteddhilaehfgbaa
/- THE CELL 'sum', in the pinned program and in every row, IS THE sha256 OF THE DUMP (.gsa) THAT YteddhilaehfgbaaProg.lean LOADS. Nothing in Lean hashes anything: it is a label: what it is worth is what the hold of that sum in a sandbox is worth. -/
noncomputable def Try.pinned : Pinned := { name := "yteddhilaehfgbaa", sum := "f065bfc0fd65fd70c650935c3c79ae607d5c45be3d140dc0a1fd1e896c3429c4", checked := Try.checked }
namespace Rows
def none {H : Type} : Left H := { results := [], args := [] }

/-- 'philtrelaw15.InboxExact': WHATEVER THE INPUT: true; the input reads as it did. -/
def inboxExactSpec : ChangeSpec := { name := "inboxExact", fn := fun _ => fun
  | [d1, d2] => { results := [.lit (.bool true)], args := [d1, d2] }
  | _ => none }
def inboxExactRow : OpenClaim := { program := "yteddhilaehfgbaa", sum := "f065bfc0fd65fd70c650935c3c79ae607d5c45be3d140dc0a1fd1e896c3429c4", func := "philtre/philtrelaw15.InboxExact", spec := "inboxExact", unfollowed := true, recurses := true, apart := false }
def InboxExactSaid : Prop := inboxExactRow.holds Try.pinned (OpenSpec.ofChange inboxExactSpec)

/-- ITS FALSE NEIGHBOUR: 'it returns false'. Refute it at one input. -/
def inboxExactWrong : ChangeSpec := { name := "inboxExact", fn := fun _ => fun
  | [d1, d2] => { results := [.lit (.bool false)], args := [d1, d2] }
  | _ => none }
def InboxExactWrongFalsely : Prop := inboxExactRow.holds Try.pinned (OpenSpec.ofChange inboxExactWrong)

/-- 'philtrelaw15.InboxLives': WHATEVER THE INPUT: true; the input reads as it did. -/
def inboxLivesSpec : ChangeSpec := { name := "inboxLives", fn := fun _ => fun
  | [d1, d2] => { results := [.lit (.bool true)], args := [d1, d2] }
  | _ => none }
def inboxLivesRow : OpenClaim := { program := "yteddhilaehfgbaa", sum := "f065bfc0fd65fd70c650935c3c79ae607d5c45be3d140dc0a1fd1e896c3429c4", func := "philtre/philtrelaw15.InboxLives", spec := "inboxLives", unfollowed := true, recurses := true, apart := false }
def InboxLivesSaid : Prop := inboxLivesRow.holds Try.pinned (OpenSpec.ofChange inboxLivesSpec)

/-- ITS FALSE NEIGHBOUR: 'it returns false'. Refute it at one input. -/
def inboxLivesWrong : ChangeSpec := { name := "inboxLives", fn := fun _ => fun
  | [d1, d2] => { results := [.lit (.bool false)], args := [d1, d2] }
  | _ => none }
def InboxLivesWrongFalsely : Prop := inboxLivesRow.holds Try.pinned (OpenSpec.ofChange inboxLivesWrong)

/-- 'philtrelaw15.InboxFull': WHATEVER THE INPUT: true; the input reads as it did. -/
def inboxFullSpec : ChangeSpec := { name := "inboxFull", fn := fun _ => fun
  | [d1, d2, d3] => { results := [.lit (.bool true)], args := [d1, d2, d3] }
  | _ => none }
def inboxFullRow : OpenClaim := { program := "yteddhilaehfgbaa", sum := "f065bfc0fd65fd70c650935c3c79ae607d5c45be3d140dc0a1fd1e896c3429c4", func := "philtre/philtrelaw15.InboxFull", spec := "inboxFull", unfollowed := true, recurses := true, apart := false }
def InboxFullSaid : Prop := inboxFullRow.holds Try.pinned (OpenSpec.ofChange inboxFullSpec)

/-- ITS FALSE NEIGHBOUR: 'it returns false'. Refute it at one input. -/
def inboxFullWrong : ChangeSpec := { name := "inboxFull", fn := fun _ => fun
  | [d1, d2, d3] => { results := [.lit (.bool false)], args := [d1, d2, d3] }
  | _ => none }
def InboxFullWrongFalsely : Prop := inboxFullRow.holds Try.pinned (OpenSpec.ofChange inboxFullWrong)

/- THE SECOND FORM. 'bulk': how many values and letters a reading holds, each counted each time it is reached (what is shared counts as often as it is met; a slice's spare places count too). A statement '..UptoSaid' is the law's where the arguments, and the package variables that the reading takes, are together of bulk at most 1048576: NARROWER than '..Said'. Prove '..Said' where nothing that the law and all that it calls make is longer than what came in: it says more and counts as full. Else prove '..UptoSaid'. A law counts once. -/
mutual
def uptoBulk {H : Type} : DataW H → Nat
  | .lit (.string bytes) => bytes.length + 1
  | .lit _ => 1
  | .nil => 1
  | .ptr d => uptoBulk d + 1
  | .slice elems spare => uptoBulkAll elems + uptoBulkAll spare + 1
  | .agg parts => uptoBulkAll parts + 1
  | .iface _ d => uptoBulk d + 1
  | .map entries => uptoBulkEntries entries + 1
  | .held _ => 1
def uptoBulkAll {H : Type} : List (DataW H) → Nat
  | [] => 0
  | d :: r => uptoBulk d + uptoBulkAll r
def uptoBulkEntries {H : Type} : List (Lit × DataW H) → Nat
  | [] => 0
  | x :: r => uptoBulkEntry x + uptoBulkEntries r
def uptoBulkEntry {H : Type} : Lit × DataW H → Nat
  | (.string bytes, d) => bytes.length + uptoBulk d + 1
  | (_, d) => uptoBulk d + 1
 end
def uptoSmall : (H : Type) → List (DataW H) → Bool := fun _ ds => decide (uptoBulkAll ds ≤ 1048576)
def OpenSpec.upto (s : _root_.Go.ChangeSpec) : _root_.Go.OpenSpec := { _root_.Go.OpenSpec.ofChange s with cond := some uptoSmall }

/-- 'philtrelaw15.InboxExact', WHERE WHAT IT READS IS OF BULK AT MOST 1048576: true; the input reads as it did. -/
def inboxExactUptoRow : OpenClaim := { program := "yteddhilaehfgbaa", sum := "f065bfc0fd65fd70c650935c3c79ae607d5c45be3d140dc0a1fd1e896c3429c4", func := "philtre/philtrelaw15.InboxExact", spec := "inboxExact", unfollowed := true, recurses := true, apart := false, narrowed := true }
def InboxExactUptoSaid : Prop := inboxExactUptoRow.holds Try.pinned (OpenSpec.upto inboxExactSpec)

/-- 'philtrelaw15.InboxLives', WHERE WHAT IT READS IS OF BULK AT MOST 1048576: true; the input reads as it did. -/
def inboxLivesUptoRow : OpenClaim := { program := "yteddhilaehfgbaa", sum := "f065bfc0fd65fd70c650935c3c79ae607d5c45be3d140dc0a1fd1e896c3429c4", func := "philtre/philtrelaw15.InboxLives", spec := "inboxLives", unfollowed := true, recurses := true, apart := false, narrowed := true }
def InboxLivesUptoSaid : Prop := inboxLivesUptoRow.holds Try.pinned (OpenSpec.upto inboxLivesSpec)

/-- 'philtrelaw15.InboxFull', WHERE WHAT IT READS IS OF BULK AT MOST 1048576: true; the input reads as it did. -/
def inboxFullUptoRow : OpenClaim := { program := "yteddhilaehfgbaa", sum := "f065bfc0fd65fd70c650935c3c79ae607d5c45be3d140dc0a1fd1e896c3429c4", func := "philtre/philtrelaw15.InboxFull", spec := "inboxFull", unfollowed := true, recurses := true, apart := false, narrowed := true }
def InboxFullUptoSaid : Prop := inboxFullUptoRow.holds Try.pinned (OpenSpec.upto inboxFullSpec)

end Rows
end Go.Proofs.Yteddhilaehfgbaa
