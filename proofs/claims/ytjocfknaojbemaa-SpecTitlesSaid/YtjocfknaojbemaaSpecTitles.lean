/-
  SpecTitles returns true for every rule, and leaves its argument as it was; no condition.
-/
import Derived.Test.YtjocfknaojbemaaRows
import Derived.Test.YtjocfknaojbemaaSpecFn
import Derived.WalkKit
import Derived.ProofKit
import Derived.OpenShut
namespace Go.Proofs.Ytjocfknaojbemaa
open Go.ChangeShapes Go.WideShapes Go.ChangeAt Go.RowKit Go.VI Go.VI.Spec

theorem own : ownKnob Try.prog.godebug = none := by kernel_rfl
theorem laid : laidOutB Try.prog = true := by kernel_rfl
theorem maps : mapsRowed Try.prog = true := by kernel_rfl
theorem slices : ((List.range Try.prog.types.size).all fun t => match Try.prog.underlying t with | some (.slice e) => decide (0 < Try.prog.cellsOf e) | _ => true) = true := by kernel_rfl

def isTrue : Option A → Bool
  | some (.bool b) => b
  | _ => false
theorem isTrue_eq {x : Option A} (h : isTrue x = true) : x = some (.bool true) := by
  unfold isTrue at h
  split at h
  · rw [h]
  · cases h

/-- All rules, one by one. -/
theorem all_titles : ((List.range 256).all fun i => isTrue (viF E T1 40 12 5 [.int .u8 (Int.ofNat i)] ⟨0, []⟩ fun v _ => some v)) = true := by kernel_rfl
theorem titles (n : Int) (h : 0 ≤ n ∧ n ≤ 255) : viF E T1 40 12 5 [.int .u8 n] ⟨0, []⟩ (fun v _ => some v) = some (.bool true) := by
  have h1 := List.all_eq_true.1 all_titles n.toNat (List.mem_range.2 (by omega))
  rw [show Int.ofNat n.toNat = n from Int.toNat_of_nonneg h.1] at h1
  exact isTrue_eq h1

set_option maxRecDepth 100000 in
theorem titlesLifted (os : Os) (started : os.Started) (H : Type) (enc : TypeId × Value → H) :
    ReturnsInHanded {} Try.checked os 5 .any (Rows.specTitlesSpec.pre6 enc Try.prog Try.f5 Rows.specTitlesRow.domain false) (Rows.specTitlesSpec.post enc Try.prog Try.f5 false true false false) := by
  refine returnsInHanded_of_change (C := Try.checked) own started (by kernel_rfl) Try.func5
    (ChangeSpec.witness6 (enc := enc) (C := Try.checked) false ⟨#[], #[.int .u8 0], []⟩ 8 (by kernel_rfl) (by kernel_rfl) (by kernel_rfl) (by kernel_rfl)) ?_
  intro W base args ds gs before hval0 hW hcnd _
  have hval : ∀ (j : Nat) t v, Try.f5.params[j]? = some t → args[j]? = some v → Value.okWide Try.prog W .any base t v := hval0
  have hW' := hW
  obtain ⟨p, q, hA0, hV, rfl, hfz, hnd⟩ := hW
  have hA : DataW.TrodAll enc Try.prog W 0 (fun _ => true) true Try.f5.params.toList args.toList ds p := hA0
  rw [Try.params5] at hA hval
  obtain ⟨v0, vs0, d0, ds0, p0, q0, hargs, rfl, rfl, h0, r0⟩ := trodAll_cons hA
  obtain ⟨rfl, rfl, rfl⟩ := trodAll_nil r0
  obtain rfl : args = #[v0] := by cases args; simp_all
  obtain ⟨rfl, -⟩ := trodVars_none hV
  obtain ⟨n, rfl, rfl, rfl, w0⟩ := open_int Try.underlying5 (hval 0 5 v0 rfl rfl) h0
  refine (law_calls E_ok T1_ok (titles n (wf_int w0)) (W := W) (vs := #[.int .u8 n]) ⟨rfl, fun i hi => ?_⟩).mono fun e W' ⟨he, hg⟩ => ?_
  · match i with
    | 0 => exact .int .u8 n
    | i + 1 => exact absurd hi (by simp)
  subst he
  exact ⟨_, rfl, law_post laid maps slices (f := Try.f5) (by kernel_rfl) Try.underlying4 rfl (by rw [Try.params5]; decide +kernel) hW' rfl rfl rfl hg⟩

theorem titlesOver : Rows.specTitlesRow.holds Try.pinned (OpenSpec.ofChange Rows.specTitlesSpec) :=
  OpenClaim.holds_of_wide 5 Try.f5 rfl rfl rfl rfl rfl rfl rfl ⟨rfl, rfl, rfl, rfl, rfl⟩ rfl rfl rfl rfl rfl (by kernel_rfl) Try.func5 (by kernel_rfl)
    (of_decide_eq_true (by kernel_rfl)) (by unfold Func.isWrapper; first | (rw [if_pos (by decide +kernel)]; kernel_rfl) | (rw [if_neg (by decide +kernel)]; exact ⟨rfl, rfl⟩))
    (fun os started H enc _ => titlesLifted os started H enc)

/-- The statement. -/
theorem titlesHolds : Rows.SpecTitlesSaid := titlesOver

#print axioms titlesHolds
end Go.Proofs.Ytjocfknaojbemaa
