/-
  No cell of these rows narrows 'for every input' (looked for: loops, veiled, ifaces, maps, wideKeys, modest, calm, conditions, laid).
  DERIVED. THE GIVEN ROWS OF THIS SEAT. 3 by the template 'for every input the law returns true; each argument reads behind the call as it read before'; 0 by the template 'total and deterministic' (their statements: YtpknhgimcabfcaaTotals.lean).
  GIVEN WITH THE SEED: the statements are not yours to turn. If you find one false, say at which input.
  Laid BY PROGRAM, IN A SANDBOX (cutbox-rows.mjs): the forced cells as the released guide's own fill.sh prints them over the translation fb26ad1273987794… (all of the seat's roots in one cut). By AI agents, Wed Nov 11 2026. No macro, syntax, notation, axiom, sorry.
-/
import Derived.Test.YtpknhgimcabfcaaChecked
import GoSem.Claim
import GoSem.ClaimJoined
import GoSem.ClaimMapViews
import Derived.JoinedTies
import Derived.KernelRfl
namespace Go.Proofs.Ytpknhgimcabfcaa
/- THE CELL 'sum', in the pinned program and in every row, IS THE sha256 OF THE DUMP (.gsa) THAT YtpknhgimcabfcaaProg.lean LOADS. Nothing in Lean hashes anything: it is a label: what it is worth is what the hold of that sum in a sandbox is worth. -/
noncomputable def Try.pinned : Pinned := { name := "ytpknhgimcabfcaa", sum := "fb26ad127398779460d0796361f020315377e5041dfc75ace36a5ab38200be8d", checked := Try.checked }
namespace Rows
def none {H : Type} : Left H := { results := [], args := [] }

/-- 'offshootlaw03.DevActs': WHATEVER THE INPUT: true; the input reads as it did. -/
def devActsSpec : ChangeSpec := { name := "devActs", fn := fun _ => fun
  | [d1, d2] => { results := [.lit (.bool true)], args := [d1, d2] }
  | _ => none }
def devActsRow : OpenClaim := { program := "ytpknhgimcabfcaa", sum := "fb26ad127398779460d0796361f020315377e5041dfc75ace36a5ab38200be8d", func := "offshoot/offshootlaw03.DevActs", spec := "devActs", inPlace := ["internal/abi.NoEscape", "internal/bytealg.MakeNoZero"], unfollowed := true, recurses := true, apart := false }
def DevActsSaid : Prop := devActsRow.holds Try.pinned (OpenSpec.ofChange devActsSpec)

/-- ITS FALSE NEIGHBOUR: 'it returns false'. Refute it at one input. -/
def devActsWrong : ChangeSpec := { name := "devActs", fn := fun _ => fun
  | [d1, d2] => { results := [.lit (.bool false)], args := [d1, d2] }
  | _ => none }
def DevActsWrongFalsely : Prop := devActsRow.holds Try.pinned (OpenSpec.ofChange devActsWrong)

/-- 'offshootlaw03.DevMany': WHATEVER THE INPUT: true; the input reads as it did. -/
def devManySpec : ChangeSpec := { name := "devMany", fn := fun _ => fun
  | [d1, d2] => { results := [.lit (.bool true)], args := [d1, d2] }
  | _ => none }
def devManyRow : OpenClaim := { program := "ytpknhgimcabfcaa", sum := "fb26ad127398779460d0796361f020315377e5041dfc75ace36a5ab38200be8d", func := "offshoot/offshootlaw03.DevMany", spec := "devMany", inPlace := ["internal/abi.NoEscape", "internal/bytealg.MakeNoZero"], unfollowed := true, recurses := true, apart := false }
def DevManySaid : Prop := devManyRow.holds Try.pinned (OpenSpec.ofChange devManySpec)

/-- ITS FALSE NEIGHBOUR: 'it returns false'. Refute it at one input. -/
def devManyWrong : ChangeSpec := { name := "devMany", fn := fun _ => fun
  | [d1, d2] => { results := [.lit (.bool false)], args := [d1, d2] }
  | _ => none }
def DevManyWrongFalsely : Prop := devManyRow.holds Try.pinned (OpenSpec.ofChange devManyWrong)

/-- 'offshootlaw03.DevNone': WHATEVER THE INPUT: true; the input reads as it did. -/
def devNoneSpec : ChangeSpec := { name := "devNone", fn := fun _ => fun
  | [d1, d2] => { results := [.lit (.bool true)], args := [d1, d2] }
  | _ => none }
def devNoneRow : OpenClaim := { program := "ytpknhgimcabfcaa", sum := "fb26ad127398779460d0796361f020315377e5041dfc75ace36a5ab38200be8d", func := "offshoot/offshootlaw03.DevNone", spec := "devNone", inPlace := ["internal/abi.NoEscape", "internal/bytealg.MakeNoZero", "maps.clone"], unfollowed := true, recurses := true, apart := false }
def DevNoneSaid : Prop := devNoneRow.holds Try.pinned (OpenSpec.ofChange devNoneSpec)

/-- ITS FALSE NEIGHBOUR: 'it returns false'. Refute it at one input. -/
def devNoneWrong : ChangeSpec := { name := "devNone", fn := fun _ => fun
  | [d1, d2] => { results := [.lit (.bool false)], args := [d1, d2] }
  | _ => none }
def DevNoneWrongFalsely : Prop := devNoneRow.holds Try.pinned (OpenSpec.ofChange devNoneWrong)

/- THE SECOND FORM. 'bulk': how many values and letters a reading holds, each counted each time it is reached (what is shared counts as often as it is met; a slice's spare places count too). A statement '..UptoSaid' is the law's where the arguments, and the package variables that the reading takes, are together of bulk at most 1048576: NARROWER than '..Said'. Prove '..Said' where nothing that the law and all that it calls make is longer than what came in: it says more and counts as full. Else prove '..UptoSaid'. A law counts once. -/
mutual
def uptoBulk {H : Type} : DataW H → Nat
  | .lit (.string bytes) => bytes.length + 1
  | .lit _ => 1
  | .nil => 1
  | .ptr d => uptoBulk d + 1
  | .slice elems spare => uptoBulkAll elems + uptoBulkAll spare + 1
  | .agg parts => uptoBulkAll parts + 1
  | .iface _ d => uptoBulk d + 1
  | .map entries => uptoBulkEntries entries + 1
  | .held _ => 1
def uptoBulkAll {H : Type} : List (DataW H) → Nat
  | [] => 0
  | d :: r => uptoBulk d + uptoBulkAll r
def uptoBulkEntries {H : Type} : List (Lit × DataW H) → Nat
  | [] => 0
  | x :: r => uptoBulkEntry x + uptoBulkEntries r
def uptoBulkEntry {H : Type} : Lit × DataW H → Nat
  | (.string bytes, d) => bytes.length + uptoBulk d + 1
  | (_, d) => uptoBulk d + 1
 end
def uptoSmall : (H : Type) → List (DataW H) → Bool := fun _ ds => decide (uptoBulkAll ds ≤ 1048576)
def OpenSpec.upto (s : _root_.Go.ChangeSpec) : _root_.Go.OpenSpec := { _root_.Go.OpenSpec.ofChange s with cond := some uptoSmall }

/-- 'offshootlaw03.DevActs', WHERE WHAT IT READS IS OF BULK AT MOST 1048576: true; the input reads as it did. -/
def devActsUptoRow : OpenClaim := { program := "ytpknhgimcabfcaa", sum := "fb26ad127398779460d0796361f020315377e5041dfc75ace36a5ab38200be8d", func := "offshoot/offshootlaw03.DevActs", spec := "devActs", inPlace := ["internal/abi.NoEscape", "internal/bytealg.MakeNoZero"], unfollowed := true, recurses := true, apart := false, narrowed := true }
def DevActsUptoSaid : Prop := devActsUptoRow.holds Try.pinned (OpenSpec.upto devActsSpec)

/-- 'offshootlaw03.DevMany', WHERE WHAT IT READS IS OF BULK AT MOST 1048576: true; the input reads as it did. -/
def devManyUptoRow : OpenClaim := { program := "ytpknhgimcabfcaa", sum := "fb26ad127398779460d0796361f020315377e5041dfc75ace36a5ab38200be8d", func := "offshoot/offshootlaw03.DevMany", spec := "devMany", inPlace := ["internal/abi.NoEscape", "internal/bytealg.MakeNoZero"], unfollowed := true, recurses := true, apart := false, narrowed := true }
def DevManyUptoSaid : Prop := devManyUptoRow.holds Try.pinned (OpenSpec.upto devManySpec)

/-- 'offshootlaw03.DevNone', WHERE WHAT IT READS IS OF BULK AT MOST 1048576: true; the input reads as it did. -/
def devNoneUptoRow : OpenClaim := { program := "ytpknhgimcabfcaa", sum := "fb26ad127398779460d0796361f020315377e5041dfc75ace36a5ab38200be8d", func := "offshoot/offshootlaw03.DevNone", spec := "devNone", inPlace := ["internal/abi.NoEscape", "internal/bytealg.MakeNoZero", "maps.clone"], unfollowed := true, recurses := true, apart := false, narrowed := true }
def DevNoneUptoSaid : Prop := devNoneUptoRow.holds Try.pinned (OpenSpec.upto devNoneSpec)

end Rows
end Go.Proofs.Ytpknhgimcabfcaa
