/-
  DueSpent of the given program returns true for every trigger every state of what is known and every number, and leaves its arguments as they were; no condition.
-/
import Derived.Test.YtbnhjgoclckbdaaGreatDueRows
import Derived.Test.YtbnhjgoclckbdaaGreatDueSpent
namespace Go.Proofs.YtbnhjgoclckbdaaGreat
open Go.ChangeShapes Go.WideShapes Go.ChangeAt Go.RowKit Go.VI Go.VI.Due

set_option maxRecDepth 100000 in
theorem spentLifted (os : Os) (started : os.Started) (H : Type) (enc : TypeId × Value → H) :
    ReturnsInHanded {} Tryz.checked os 4 .any (Rows.dueSpentSpec.pre6 enc Tryz.prog Tryz.f4 Rows.dueSpentRow.domain false) (Rows.dueSpentSpec.post enc Tryz.prog Tryz.f4 false true false false) := by
  refine returnsInHanded_of_change (C := Tryz.checked) own started (by kernel_rfl) Tryz.func4
    (ChangeSpec.witness6 (enc := enc) (C := Tryz.checked) false ⟨#[], #[.agg #[.int .u8 0, .int .i64 0, .string ⟨#[]⟩], .agg #[.int .i64 0, .int .i64 0, .int .i64 0, .int .i64 0, .int .i64 0, .int .i64 0], .int .u32 0], []⟩ 8 (by kernel_rfl) (by kernel_rfl) (by kernel_rfl) (by kernel_rfl)) ?_
  intro W base args ds gs before hval0 hW hcnd _
  have hval : ∀ (j : Nat) t v, Tryz.f4.params[j]? = some t → args[j]? = some v → Value.okWide Tryz.prog W .any base t v := hval0
  have hW' := hW
  obtain ⟨p, q, hA0, hV, rfl, hfz, hnd⟩ := hW
  have hA : DataW.TrodAll enc Tryz.prog W 0 (fun _ => true) true Tryz.f4.params.toList args.toList ds p := hA0
  rw [Tryz.params4] at hA hval
  obtain ⟨v0, vs0, d0, ds0, p0, q0, hargs, rfl, rfl, h0, r0⟩ := trodAll_cons hA
  obtain ⟨v1, vs1, d1, ds1, p1, q1, rfl, rfl, rfl, h1, r1⟩ := trodAll_cons r0
  obtain ⟨v2, vs2, d2, ds2, p2, q2, rfl, rfl, rfl, h2, r2⟩ := trodAll_cons r1
  obtain ⟨rfl, rfl, rfl⟩ := trodAll_nil r2
  obtain rfl : args = #[v0, v1, v2] := by cases args; simp_all
  obtain ⟨rfl, -⟩ := trodVars_none hV
  obtain ⟨⟨kd, s, t⟩, e0, -, i0, -⟩ := open_agg (C := VI.start W) ty23 Tryz.underlying23 (hval 0 23 v0 rfl rfl) h0
  obtain ⟨⟨k1, k2, k3, k4, k5, k6⟩, e1, j1, j2, j3, j4, -⟩ := open_agg (C := VI.start W) ty25 Tryz.underlying25 (hval 1 25 v1 rfl rfl) h1
  obtain ⟨m, rfl, rfl, rfl, w2⟩ := open_int Tryz.underlying37 (hval 2 37 v2 rfl rfl) h2
  refine (law_calls E_ok T2_ok ((spent_eq kd s m t k1 k2 k3 k4 k5 k6).trans (spent_law (k6 := k6) (in64 i0) (in64 j1) (in64 j2) (in64 j3) (in64 j4) (wf_int w2))) (W := W) (vs := #[v0, v1, .int .u32 m]) ⟨rfl, fun i hi => ?_⟩).mono fun e W' ⟨he, hg⟩ => ?_
  · match i with
    | 0 => exact e0
    | 1 => exact e1
    | 2 => exact .int .u32 m
    | i + 3 => exact absurd hi (by simp)
  subst he
  exact ⟨_, rfl, law_post laid maps slices (f := Tryz.f4) (by kernel_rfl) Tryz.underlying4 rfl (by rw [Tryz.params4]; decide +kernel) hW' rfl rfl rfl hg⟩

theorem spentOver : Rows.dueSpentRow.holds Tryz.pinned (OpenSpec.ofChange Rows.dueSpentSpec) :=
  OpenClaim.holds_of_wide 4 Tryz.f4 rfl rfl rfl rfl rfl rfl rfl ⟨rfl, rfl, rfl, rfl, rfl⟩ rfl rfl rfl rfl rfl (by kernel_rfl) Tryz.func4 (by kernel_rfl)
    (of_decide_eq_true (by kernel_rfl)) (by unfold Func.isWrapper; first | (rw [if_pos (by decide +kernel)]; kernel_rfl) | (rw [if_neg (by decide +kernel)]; exact ⟨rfl, rfl⟩))
    (fun os started H enc _ => spentLifted os started H enc)

/-- The statement. -/
theorem spentHolds : Rows.DueSpentSaid := spentOver

#print axioms spentHolds
end Go.Proofs.YtbnhjgoclckbdaaGreat
