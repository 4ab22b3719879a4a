/-
  DueMono of the given program returns true for every trigger and every state of what is known, and leaves its arguments as they were; no condition.
-/
import Derived.Test.YtbnhjgoclckbdaaGreatDueRows
namespace Go.Proofs.YtbnhjgoclckbdaaGreat
open Go.ChangeShapes Go.WideShapes Go.ChangeAt Go.RowKit Go.VI Go.VI.Due

set_option maxRecDepth 100000 in
theorem monoLifted (os : Os) (started : os.Started) (H : Type) (enc : TypeId × Value → H) :
    ReturnsInHanded {} Tryz.checked os 3 .any (Rows.dueMonoSpec.pre6 enc Tryz.prog Tryz.f3 Rows.dueMonoRow.domain false) (Rows.dueMonoSpec.post enc Tryz.prog Tryz.f3 false true false false) := by
  refine returnsInHanded_of_change (C := Tryz.checked) own started (by kernel_rfl) Tryz.func3
    (ChangeSpec.witness6 (enc := enc) (C := Tryz.checked) false ⟨#[], #[.agg #[.int .u8 0, .int .i64 0, .string ⟨#[]⟩], .agg #[.int .i64 0, .int .i64 0, .int .i64 0, .int .i64 0, .int .i64 0, .int .i64 0]], []⟩ 8 (by kernel_rfl) (by kernel_rfl) (by kernel_rfl) (by kernel_rfl)) ?_
  intro W base args ds gs before hval0 hW hcnd _
  have hval : ∀ (j : Nat) t v, Tryz.f3.params[j]? = some t → args[j]? = some v → Value.okWide Tryz.prog W .any base t v := hval0
  have hW' := hW
  obtain ⟨p, q, hA0, hV, rfl, hfz, hnd⟩ := hW
  have hA : DataW.TrodAll enc Tryz.prog W 0 (fun _ => true) true Tryz.f3.params.toList args.toList ds p := hA0
  rw [Tryz.params3] at hA hval
  obtain ⟨v0, vs0, d0, ds0, p0, q0, hargs, rfl, rfl, h0, r0⟩ := trodAll_cons hA
  obtain ⟨v1, vs1, d1, ds1, p1, q1, rfl, rfl, rfl, h1, r1⟩ := trodAll_cons r0
  obtain ⟨rfl, rfl, rfl⟩ := trodAll_nil r1
  obtain rfl : args = #[v0, v1] := by cases args; simp_all
  obtain ⟨rfl, -⟩ := trodVars_none hV
  obtain ⟨⟨kd, s, t⟩, e0, -, i0, -⟩ := open_agg (C := VI.start W) ty23 Tryz.underlying23 (hval 0 23 v0 rfl rfl) h0
  obtain ⟨⟨k1, k2, k3, k4, k5, k6⟩, e1, j1, j2, j3, j4, -⟩ := open_agg (C := VI.start W) ty25 Tryz.underlying25 (hval 1 25 v1 rfl rfl) h1
  refine (law_calls E_ok T2_ok ((mono_eq kd s t k1 k2 k3 k4 k5 k6).trans (mono_law (k6 := k6) (in64 i0) (in64 j1) (in64 j2) (in64 j3) (in64 j4))) (W := W) (vs := #[v0, v1]) ⟨rfl, fun i hi => ?_⟩).mono fun e W' ⟨he, hg⟩ => ?_
  · match i with
    | 0 => exact e0
    | 1 => exact e1
    | i + 2 => exact absurd hi (by simp)
  subst he
  exact ⟨_, rfl, law_post laid maps slices (f := Tryz.f3) (by kernel_rfl) Tryz.underlying4 rfl (by rw [Tryz.params3]; decide +kernel) hW' rfl rfl rfl hg⟩

theorem monoOver : Rows.dueMonoRow.holds Tryz.pinned (OpenSpec.ofChange Rows.dueMonoSpec) :=
  OpenClaim.holds_of_wide 3 Tryz.f3 rfl rfl rfl rfl rfl rfl rfl ⟨rfl, rfl, rfl, rfl, rfl⟩ rfl rfl rfl rfl rfl (by kernel_rfl) Tryz.func3 (by kernel_rfl)
    (of_decide_eq_true (by kernel_rfl)) (by unfold Func.isWrapper; first | (rw [if_pos (by decide +kernel)]; kernel_rfl) | (rw [if_neg (by decide +kernel)]; exact ⟨rfl, rfl⟩))
    (fun os started H enc _ => monoLifted os started H enc)

/-- The statement. -/
theorem monoHolds : Rows.DueMonoSaid := monoOver

#print axioms monoHolds
end Go.Proofs.YtbnhjgoclckbdaaGreat
