/-
  SvcKnown comes to true.
-/
import Derived.Test.YtjocfknaojbemaaSvcKnown
namespace Go.VI

variable {P : Program} {E : Env}
/-- A loop's contract that is its own run. -/
def lrun (E : Env) (T : Tab) (u d f id : Nat) (nm : Nat → Fr → Heap → Option (Fr × Heap)) (v : Nat) : LoopC := fun R tm H K => match nm H.next tm H with
  | some (tm1, H1) => runL E T u d f id nm H.next K v tm1 H1
  | none => none
theorem lrun_ok {T : Tab} {u d f id v : Nat} {nm : Nat → Fr → Heap → Option (Fr × Heap)} (hE : EnvOk P E) (hT : TabOk P T) (hn : NormOk nm) (hf : E.ok f = true) (h1 : loopOnce P f id = true) : LpOk P f id (lrun E T u d f id nm v) := by
  refine lp_ok (u := u) (d := d) hE hT hn hf h1 fun R tm H K r h => ?_
  unfold lrun at h
  split at h
  · rename_i tm1 H1 hn1
    exact ⟨v, tm1, H1, hn1, h⟩
  · cases h

end Go.VI
namespace Go.VI.Svc
open Go.Proofs

def nm13 := normG [0, 1, 5] [] [] []
def nm16 := normG [0, 1, 5, 6] [] [] []
noncomputable def T27 : Tab := tabL (fns3 okFL) [(3, 27, l27)]
noncomputable def l16 : LoopC := lrun E2 T27 7 8 3 16 nm16 7
noncomputable def T16 : Tab := tabL (fns3 okFL) [(3, 27, l27), (3, 16, l16)]
noncomputable def l13 : LoopC := lrun E2 T16 7 8 3 13 nm13 6
noncomputable def T13 : Tab := tabL (fns3 okFL) [(3, 13, l13)]
theorem T27_ok : TabOk Try.prog T27 := tabL_ok fns3_ok fun p hp => by
  simp only [List.mem_cons, List.not_mem_nil, or_false] at hp
  subst hp
  exact l27_ok
theorem l16_ok : LpOk Try.prog 3 16 l16 := lrun_ok E2_ok T27_ok (normG_ok ..) (by kernel_rfl) (by kernel_rfl)
theorem T16_ok : TabOk Try.prog T16 := tabL_ok fns3_ok fun p hp => by
  simp only [List.mem_cons, List.not_mem_nil, or_false] at hp
  rcases hp with rfl | rfl
  · exact l27_ok
  · exact l16_ok
theorem l13_ok : LpOk Try.prog 3 13 l13 := lrun_ok E2_ok T16_ok (normG_ok ..) (by kernel_rfl) (by kernel_rfl)
theorem T13_ok : TabOk Try.prog T13 := tabL_ok fns3_ok fun p hp => by
  simp only [List.mem_cons, List.not_mem_nil, or_false] at hp
  subst hp
  exact l13_ok

theorem known : viF E2 T13 7 8 3 [] ⟨0, []⟩ (fun v _ => some v) = some (.bool true) := by kernel_rfl

end Go.VI.Svc
