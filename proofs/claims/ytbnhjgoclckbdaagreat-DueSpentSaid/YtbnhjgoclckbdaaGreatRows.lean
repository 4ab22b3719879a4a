/-
  No cell of these rows narrows 'for every input' (looked for: loops, veiled, ifaces, maps, wideKeys, modest, calm, conditions, laid).
  DERIVED. THE GIVEN ROWS OF THIS SEAT. 2 by the template 'for every input the law returns true; each argument reads behind the call as it read before'; 0 by the template 'total and deterministic' (their statements: YtbnhjgoclckbdaaGreatTotals.lean).
  GIVEN WITH THE SEED: the statements are not yours to turn. If you find one false, say at which input.
  Laid BY PROGRAM, IN A SANDBOX (cutbox-rows.mjs): the forced cells as the released guide's own fill.sh prints them over the translation 68535c56a6ab4743… (all of the seat's roots in one cut). By AI agents, Wed Nov 11 2026. No macro, syntax, notation, axiom, sorry.
-/
import Derived.Test.YtbnhjgoclckbdaaGreatChecked
import GoSem.Claim
import GoSem.ClaimJoined
import GoSem.ClaimMapViews
import Derived.JoinedTies
import Derived.KernelRfl
namespace Go.Proofs.YtbnhjgoclckbdaaGreat
/- THE CELL 'sum', in the pinned program and in every row, IS THE sha256 OF THE DUMP (.gsa) THAT YtbnhjgoclckbdaaGreatProg.lean LOADS. Nothing in Lean hashes anything: it is a label: what it is worth is what the hold of that sum in a sandbox is worth. -/
noncomputable def Tryz.pinned : Pinned := { name := "ytbnhjgoclckbdaagreat", sum := "68535c56a6ab474315281d708a95aef28f282ad35022c3c5f3767c6239382d95", checked := Tryz.checked }
namespace Rows
def none {H : Type} : Left H := { results := [], args := [] }

/-- 'clepsydralaw28.DueMono': WHATEVER THE INPUT: true; the input reads as it did. -/
def dueMonoSpec : ChangeSpec := { name := "dueMono", fn := fun _ => fun
  | [d1, d2] => { results := [.lit (.bool true)], args := [d1, d2] }
  | _ => none }
def dueMonoRow : OpenClaim := { program := "ytbnhjgoclckbdaagreat", sum := "68535c56a6ab474315281d708a95aef28f282ad35022c3c5f3767c6239382d95", func := "clepsydra/clepsydralaw28.DueMono", spec := "dueMono", unfollowed := true, recurses := true, apart := false }
def DueMonoSaid : Prop := dueMonoRow.holds Tryz.pinned (OpenSpec.ofChange dueMonoSpec)

/-- ITS FALSE NEIGHBOUR: 'it returns false'. Refute it at one input. -/
def dueMonoWrong : ChangeSpec := { name := "dueMono", fn := fun _ => fun
  | [d1, d2] => { results := [.lit (.bool false)], args := [d1, d2] }
  | _ => none }
def DueMonoWrongFalsely : Prop := dueMonoRow.holds Tryz.pinned (OpenSpec.ofChange dueMonoWrong)

/-- 'clepsydralaw28.DueSpent': WHATEVER THE INPUT: true; the input reads as it did. -/
def dueSpentSpec : ChangeSpec := { name := "dueSpent", fn := fun _ => fun
  | [d1, d2, d3] => { results := [.lit (.bool true)], args := [d1, d2, d3] }
  | _ => none }
def dueSpentRow : OpenClaim := { program := "ytbnhjgoclckbdaagreat", sum := "68535c56a6ab474315281d708a95aef28f282ad35022c3c5f3767c6239382d95", func := "clepsydra/clepsydralaw28.DueSpent", spec := "dueSpent", unfollowed := true, recurses := true, apart := false }
def DueSpentSaid : Prop := dueSpentRow.holds Tryz.pinned (OpenSpec.ofChange dueSpentSpec)

/-- ITS FALSE NEIGHBOUR: 'it returns false'. Refute it at one input. -/
def dueSpentWrong : ChangeSpec := { name := "dueSpent", fn := fun _ => fun
  | [d1, d2, d3] => { results := [.lit (.bool false)], args := [d1, d2, d3] }
  | _ => none }
def DueSpentWrongFalsely : Prop := dueSpentRow.holds Tryz.pinned (OpenSpec.ofChange dueSpentWrong)

/- THE SECOND FORM. 'bulk': how many values and letters a reading holds, each counted each time it is reached (what is shared counts as often as it is met; a slice's spare places count too). A statement '..UptoSaid' is the law's where the arguments, and the package variables that the reading takes, are together of bulk at most 1048576: NARROWER than '..Said'. Prove '..Said' where nothing that the law and all that it calls make is longer than what came in: it says more and counts as full. Else prove '..UptoSaid'. A law counts once. -/
mutual
def uptoBulk {H : Type} : DataW H → Nat
  | .lit (.string bytes) => bytes.length + 1
  | .lit _ => 1
  | .nil => 1
  | .ptr d => uptoBulk d + 1
  | .slice elems spare => uptoBulkAll elems + uptoBulkAll spare + 1
  | .agg parts => uptoBulkAll parts + 1
  | .iface _ d => uptoBulk d + 1
  | .map entries => uptoBulkEntries entries + 1
  | .held _ => 1
def uptoBulkAll {H : Type} : List (DataW H) → Nat
  | [] => 0
  | d :: r => uptoBulk d + uptoBulkAll r
def uptoBulkEntries {H : Type} : List (Lit × DataW H) → Nat
  | [] => 0
  | x :: r => uptoBulkEntry x + uptoBulkEntries r
def uptoBulkEntry {H : Type} : Lit × DataW H → Nat
  | (.string bytes, d) => bytes.length + uptoBulk d + 1
  | (_, d) => uptoBulk d + 1
 end
def uptoSmall : (H : Type) → List (DataW H) → Bool := fun _ ds => decide (uptoBulkAll ds ≤ 1048576)
def OpenSpec.upto (s : _root_.Go.ChangeSpec) : _root_.Go.OpenSpec := { _root_.Go.OpenSpec.ofChange s with cond := some uptoSmall }

/-- 'clepsydralaw28.DueMono', WHERE WHAT IT READS IS OF BULK AT MOST 1048576: true; the input reads as it did. -/
def dueMonoUptoRow : OpenClaim := { program := "ytbnhjgoclckbdaagreat", sum := "68535c56a6ab474315281d708a95aef28f282ad35022c3c5f3767c6239382d95", func := "clepsydra/clepsydralaw28.DueMono", spec := "dueMono", unfollowed := true, recurses := true, apart := false, narrowed := true }
def DueMonoUptoSaid : Prop := dueMonoUptoRow.holds Tryz.pinned (OpenSpec.upto dueMonoSpec)

/-- 'clepsydralaw28.DueSpent', WHERE WHAT IT READS IS OF BULK AT MOST 1048576: true; the input reads as it did. -/
def dueSpentUptoRow : OpenClaim := { program := "ytbnhjgoclckbdaagreat", sum := "68535c56a6ab474315281d708a95aef28f282ad35022c3c5f3767c6239382d95", func := "clepsydra/clepsydralaw28.DueSpent", spec := "dueSpent", unfollowed := true, recurses := true, apart := false, narrowed := true }
def DueSpentUptoSaid : Prop := dueSpentUptoRow.holds Tryz.pinned (OpenSpec.upto dueSpentSpec)

end Rows
end Go.Proofs.YtbnhjgoclckbdaaGreat
