/-
  No cell of these rows narrows 'for every input' (looked for: loops, veiled, ifaces, maps, wideKeys, modest, calm, conditions, laid).
  DERIVED. THE GIVEN ROWS OF THIS SEAT. 5 by the template 'for every input the law returns true; each argument reads behind the call as it read before'; 0 by the template 'total and deterministic' (their statements: YtjocfknaojbemaaTotals.lean).
  GIVEN WITH THE SEED: the statements are not yours to turn. If you find one false, say at which input.
  Laid BY PROGRAM, IN A SANDBOX (cutbox-rows.mjs): the forced cells as the released guide's own fill.sh prints them over the translation 784f8857f61baacd… (all of the seat's roots in one cut). By AI agents, Wed Nov 11 2026. No macro, syntax, notation, axiom, sorry.
-/
import Derived.Test.YtjocfknaojbemaaChecked
import GoSem.Claim
import GoSem.ClaimJoined
import GoSem.ClaimMapViews
import Derived.JoinedTies
import Derived.KernelRfl
namespace Go.Proofs.Ytjocfknaojbemaa
/- THE CELL 'sum', in the pinned program and in every row, IS THE sha256 OF THE DUMP (.gsa) THAT YtjocfknaojbemaaProg.lean LOADS. Nothing in Lean hashes anything: it is a label: what it is worth is what the hold of that sum in a sandbox is worth. -/
noncomputable def Try.pinned : Pinned := { name := "ytjocfknaojbemaa", sum := "784f8857f61baacd5e67fb4d20e268b4254e3cc685264d673c08edf83502bbec", checked := Try.checked }
namespace Rows
def none {H : Type} : Left H := { results := [], args := [] }

/-- 'clepsydralaw26.SvcKnown': WHATEVER THE INPUT: true; the input reads as it did. -/
def svcKnownSpec : ChangeSpec := { name := "svcKnown", fn := fun _ => fun
  | [] => { results := [.lit (.bool true)], args := [] }
  | _ => none }
def svcKnownRow : OpenClaim := { program := "ytjocfknaojbemaa", sum := "784f8857f61baacd5e67fb4d20e268b4254e3cc685264d673c08edf83502bbec", func := "clepsydra/clepsydralaw26.SvcKnown", spec := "svcKnown", unfollowed := true, recurses := true, plainKeys := false, apart := false }
def SvcKnownSaid : Prop := svcKnownRow.holds Try.pinned (OpenSpec.ofChange svcKnownSpec)

/-- ITS FALSE NEIGHBOUR: 'it returns false'. Refute it at one input. -/
def svcKnownWrong : ChangeSpec := { name := "svcKnown", fn := fun _ => fun
  | [] => { results := [.lit (.bool false)], args := [] }
  | _ => none }
def SvcKnownWrongFalsely : Prop := svcKnownRow.holds Try.pinned (OpenSpec.ofChange svcKnownWrong)

/-- 'clepsydralaw32.SpecFewer': WHATEVER THE INPUT: true; the input reads as it did. -/
def specFewerSpec : ChangeSpec := { name := "specFewer", fn := fun _ => fun
  | [d1, d2, d3] => { results := [.lit (.bool true)], args := [d1, d2, d3] }
  | _ => none }
def specFewerRow : OpenClaim := { program := "ytjocfknaojbemaa", sum := "784f8857f61baacd5e67fb4d20e268b4254e3cc685264d673c08edf83502bbec", func := "clepsydra/clepsydralaw32.SpecFewer", spec := "specFewer", unfollowed := true, recurses := true, plainKeys := false, apart := false }
def SpecFewerSaid : Prop := specFewerRow.holds Try.pinned (OpenSpec.ofChange specFewerSpec)

/-- ITS FALSE NEIGHBOUR: 'it returns false'. Refute it at one input. -/
def specFewerWrong : ChangeSpec := { name := "specFewer", fn := fun _ => fun
  | [d1, d2, d3] => { results := [.lit (.bool false)], args := [d1, d2, d3] }
  | _ => none }
def SpecFewerWrongFalsely : Prop := specFewerRow.holds Try.pinned (OpenSpec.ofChange specFewerWrong)

/-- 'clepsydralaw32.SpecTitles': WHATEVER THE INPUT: true; the input reads as it did. -/
def specTitlesSpec : ChangeSpec := { name := "specTitles", fn := fun _ => fun
  | [d] => { results := [.lit (.bool true)], args := [d] }
  | _ => none }
def specTitlesRow : OpenClaim := { program := "ytjocfknaojbemaa", sum := "784f8857f61baacd5e67fb4d20e268b4254e3cc685264d673c08edf83502bbec", func := "clepsydra/clepsydralaw32.SpecTitles", spec := "specTitles", unfollowed := true, recurses := true, plainKeys := false, apart := false }
def SpecTitlesSaid : Prop := specTitlesRow.holds Try.pinned (OpenSpec.ofChange specTitlesSpec)

/-- ITS FALSE NEIGHBOUR: 'it returns false'. Refute it at one input. -/
def specTitlesWrong : ChangeSpec := { name := "specTitles", fn := fun _ => fun
  | [d] => { results := [.lit (.bool false)], args := [d] }
  | _ => none }
def SpecTitlesWrongFalsely : Prop := specTitlesRow.holds Try.pinned (OpenSpec.ofChange specTitlesWrong)

/-- 'clepsydralaw32.SpecUnit': WHATEVER THE INPUT: true; the input reads as it did. -/
def specUnitSpec : ChangeSpec := { name := "specUnit", fn := fun _ => fun
  | [d1, d2] => { results := [.lit (.bool true)], args := [d1, d2] }
  | _ => none }
def specUnitRow : OpenClaim := { program := "ytjocfknaojbemaa", sum := "784f8857f61baacd5e67fb4d20e268b4254e3cc685264d673c08edf83502bbec", func := "clepsydra/clepsydralaw32.SpecUnit", spec := "specUnit", unfollowed := true, recurses := true, plainKeys := false, apart := false }
def SpecUnitSaid : Prop := specUnitRow.holds Try.pinned (OpenSpec.ofChange specUnitSpec)

/-- ITS FALSE NEIGHBOUR: 'it returns false'. Refute it at one input. -/
def specUnitWrong : ChangeSpec := { name := "specUnit", fn := fun _ => fun
  | [d1, d2] => { results := [.lit (.bool false)], args := [d1, d2] }
  | _ => none }
def SpecUnitWrongFalsely : Prop := specUnitRow.holds Try.pinned (OpenSpec.ofChange specUnitWrong)

/-- 'clepsydralaw32.SpecReading': WHATEVER THE INPUT: true; the input reads as it did. -/
def specReadingSpec : ChangeSpec := { name := "specReading", fn := fun _ => fun
  | [d1, d2] => { results := [.lit (.bool true)], args := [d1, d2] }
  | _ => none }
def specReadingRow : OpenClaim := { program := "ytjocfknaojbemaa", sum := "784f8857f61baacd5e67fb4d20e268b4254e3cc685264d673c08edf83502bbec", func := "clepsydra/clepsydralaw32.SpecReading", spec := "specReading", unfollowed := true, recurses := true, plainKeys := false, apart := false }
def SpecReadingSaid : Prop := specReadingRow.holds Try.pinned (OpenSpec.ofChange specReadingSpec)

/-- ITS FALSE NEIGHBOUR: 'it returns false'. Refute it at one input. -/
def specReadingWrong : ChangeSpec := { name := "specReading", fn := fun _ => fun
  | [d1, d2] => { results := [.lit (.bool false)], args := [d1, d2] }
  | _ => none }
def SpecReadingWrongFalsely : Prop := specReadingRow.holds Try.pinned (OpenSpec.ofChange specReadingWrong)

/- THE SECOND FORM. 'bulk': how many values and letters a reading holds, each counted each time it is reached (what is shared counts as often as it is met; a slice's spare places count too). A statement '..UptoSaid' is the law's where the arguments, and the package variables that the reading takes, are together of bulk at most 1048576: NARROWER than '..Said'. Prove '..Said' where nothing that the law and all that it calls make is longer than what came in: it says more and counts as full. Else prove '..UptoSaid'. A law counts once. -/
mutual
def uptoBulk {H : Type} : DataW H → Nat
  | .lit (.string bytes) => bytes.length + 1
  | .lit _ => 1
  | .nil => 1
  | .ptr d => uptoBulk d + 1
  | .slice elems spare => uptoBulkAll elems + uptoBulkAll spare + 1
  | .agg parts => uptoBulkAll parts + 1
  | .iface _ d => uptoBulk d + 1
  | .map entries => uptoBulkEntries entries + 1
  | .held _ => 1
def uptoBulkAll {H : Type} : List (DataW H) → Nat
  | [] => 0
  | d :: r => uptoBulk d + uptoBulkAll r
def uptoBulkEntries {H : Type} : List (Lit × DataW H) → Nat
  | [] => 0
  | x :: r => uptoBulkEntry x + uptoBulkEntries r
def uptoBulkEntry {H : Type} : Lit × DataW H → Nat
  | (.string bytes, d) => bytes.length + uptoBulk d + 1
  | (_, d) => uptoBulk d + 1
 end
def uptoSmall : (H : Type) → List (DataW H) → Bool := fun _ ds => decide (uptoBulkAll ds ≤ 1048576)
def OpenSpec.upto (s : _root_.Go.ChangeSpec) : _root_.Go.OpenSpec := { _root_.Go.OpenSpec.ofChange s with cond := some uptoSmall }

/-- 'clepsydralaw26.SvcKnown', WHERE WHAT IT READS IS OF BULK AT MOST 1048576: true; the input reads as it did. -/
def svcKnownUptoRow : OpenClaim := { program := "ytjocfknaojbemaa", sum := "784f8857f61baacd5e67fb4d20e268b4254e3cc685264d673c08edf83502bbec", func := "clepsydra/clepsydralaw26.SvcKnown", spec := "svcKnown", unfollowed := true, recurses := true, plainKeys := false, apart := false, narrowed := true }
def SvcKnownUptoSaid : Prop := svcKnownUptoRow.holds Try.pinned (OpenSpec.upto svcKnownSpec)

/-- 'clepsydralaw32.SpecFewer', WHERE WHAT IT READS IS OF BULK AT MOST 1048576: true; the input reads as it did. -/
def specFewerUptoRow : OpenClaim := { program := "ytjocfknaojbemaa", sum := "784f8857f61baacd5e67fb4d20e268b4254e3cc685264d673c08edf83502bbec", func := "clepsydra/clepsydralaw32.SpecFewer", spec := "specFewer", unfollowed := true, recurses := true, plainKeys := false, apart := false, narrowed := true }
def SpecFewerUptoSaid : Prop := specFewerUptoRow.holds Try.pinned (OpenSpec.upto specFewerSpec)

/-- 'clepsydralaw32.SpecTitles', WHERE WHAT IT READS IS OF BULK AT MOST 1048576: true; the input reads as it did. -/
def specTitlesUptoRow : OpenClaim := { program := "ytjocfknaojbemaa", sum := "784f8857f61baacd5e67fb4d20e268b4254e3cc685264d673c08edf83502bbec", func := "clepsydra/clepsydralaw32.SpecTitles", spec := "specTitles", unfollowed := true, recurses := true, plainKeys := false, apart := false, narrowed := true }
def SpecTitlesUptoSaid : Prop := specTitlesUptoRow.holds Try.pinned (OpenSpec.upto specTitlesSpec)

/-- 'clepsydralaw32.SpecUnit', WHERE WHAT IT READS IS OF BULK AT MOST 1048576: true; the input reads as it did. -/
def specUnitUptoRow : OpenClaim := { program := "ytjocfknaojbemaa", sum := "784f8857f61baacd5e67fb4d20e268b4254e3cc685264d673c08edf83502bbec", func := "clepsydra/clepsydralaw32.SpecUnit", spec := "specUnit", unfollowed := true, recurses := true, plainKeys := false, apart := false, narrowed := true }
def SpecUnitUptoSaid : Prop := specUnitUptoRow.holds Try.pinned (OpenSpec.upto specUnitSpec)

/-- 'clepsydralaw32.SpecReading', WHERE WHAT IT READS IS OF BULK AT MOST 1048576: true; the input reads as it did. -/
def specReadingUptoRow : OpenClaim := { program := "ytjocfknaojbemaa", sum := "784f8857f61baacd5e67fb4d20e268b4254e3cc685264d673c08edf83502bbec", func := "clepsydra/clepsydralaw32.SpecReading", spec := "specReading", unfollowed := true, recurses := true, plainKeys := false, apart := false, narrowed := true }
def SpecReadingUptoSaid : Prop := specReadingUptoRow.holds Try.pinned (OpenSpec.upto specReadingSpec)

end Rows
end Go.Proofs.Ytjocfknaojbemaa
