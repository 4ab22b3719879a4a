/-
  What both rows of the triggers' laws lean on.
-/
import Derived.Test.YtbnhjgoclckbdaaGreatRows
import Derived.Test.YtbnhjgoclckbdaaGreatDueLaw
import Derived.Test.YtbnhjgoclckbdaaGreatVILaw
import Derived.WalkKit
import Derived.ProofKit
import Derived.OpenShut
namespace Go.Proofs.YtbnhjgoclckbdaaGreat
open Go.ChangeShapes Go.WideShapes Go.ChangeAt Go.RowKit Go.VI Go.VI.Due

theorem own : ownKnob Tryz.prog.godebug = none := by kernel_rfl
theorem laid : laidOutB Tryz.prog = true := by kernel_rfl
theorem maps : mapsRowed Tryz.prog = true := by kernel_rfl
theorem slices : ((List.range Tryz.prog.types.size).all fun t => match Tryz.prog.underlying t with | some (.slice e) => decide (0 < Tryz.prog.cellsOf e) | _ => true) = true := by kernel_rfl
theorem ty23 : tyS Tryz.prog 3 23 = some (.pair (.int .u8) (.pair (.int .i64) .str)) := by kernel_rfl
theorem ty25 : tyS Tryz.prog 3 25 = some (.pair (.int .i64) (.pair (.int .i64) (.pair (.int .i64) (.pair (.int .i64) (.pair (.int .i64) (.int .i64)))))) := by kernel_rfl

theorem in64 {n : Int} (h : IntKind.i64.min ≤ n ∧ n ≤ IntKind.i64.max) : In64 n := h

end Go.Proofs.YtbnhjgoclckbdaaGreat
