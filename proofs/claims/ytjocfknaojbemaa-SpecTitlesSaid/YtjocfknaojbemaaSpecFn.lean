/-
  What functions of the checker's laws come to.
-/
import Derived.Test.YtjocfknaojbemaaSpecTab
namespace Go.VI.Spec
open Go.Proofs

noncomputable def T0 : Tab := { fns := fun _ => none, loops := fun _ _ => none }
theorem T0_ok : TabOk Try.prog T0 where
  fns g te h := by cases h
  loops f b l fn h := by cases h

/-- works: the chapter's examples: true. -/
def worksTE : TE := fun _ xs H k => match xs with
  | [] => k (.bool true) H
  | _ => none
theorem works_eq (R : Type) (H : Heap) (k : A → Heap → Option R) : worksTE R [] H k = pureTE E T0 40 12 23 R [] H k := by kernel_rfl
theorem works_ok (R : Type) (xs : List A) (C : Cx) (k : A → Heap → Option R) (r : R) (hR : Rel C) (h : worksTE R xs C.H k = some r) : CallOk Try.prog 23 xs C k r := by
  have h' := h
  unfold worksTE at h'
  split at h'
  · rw [works_eq] at h
    exact pureTE_ok E_ok T0_ok R _ C k r hR h
  · cases h'

noncomputable def T1 : Tab := { fns := fun f => if Nat.beq f 23 then some worksTE else none, loops := fun _ _ => none }
theorem T1_ok : TabOk Try.prog T1 where
  fns g te h R xs C k r hR hk := by
    simp only [T1] at h
    split at h
    · rename_i hg
      have := Nat.eq_of_beq_eq_true hg
      subst this
      cases h
      exact works_ok R xs C k r hR hk
    · cases h
  loops f b l fn h := by cases h

end Go.VI.Spec
