/-
  Contracts of SvcPlays, SvcProcess, SvcResults, SvcStops: true, where numbers are as their types have them.
-/
import Derived.Test.YtjocfknaojbemaaSvcLaw11
namespace Go.VI.Svc
open Go.Proofs

/-- A file's cells, its words nil or not. -/
def decX : List A → Option Fc
  | [.int .u8 fk, .nils, .nils, .nils, .nils, .nils, .nils, .nils, .bool false, .int .i64 0, .int .i64 0, .int .u8 ty, .bool rm, .int .u8 rs, .int .i64 ag, .int .i64 up, .int .i64 dn, ex, .nils, .int .i64 0, .int .i64 0, .bool false, .bool false, .bool false, .str []] => match ex with
    | .nils => some ⟨fk, ty, rm, rs, ag, up, dn, []⟩
    | .sl .str xs => some ⟨fk, ty, rm, rs, ag, up, dn, xs⟩
    | _ => none
  | _ => none
theorem nils_sl {C : Cx} {v : Value} (h : VR C .nils v) (t : Ty) : VR C (.sl t []) v := by
  cases h
  exact .sl0 t none 0
theorem decX_VR {cs : List A} {f : Fc} (h : decX cs = some f) {C : Cx} {v : Value} (hv : VR C (.agg cs) v) : VR C (.agg (f.cells true)) v := by
  unfold decX at h
  split at h
  · split at h
    · cases h
      cases hv with
      | agg _ c hs hc h1 =>
        refine .agg _ c hs (fun i hi => ?_) h1
        have := hc i hi
        by_cases h17 : i = 17
        · subst h17
          exact nils_sl this .str
        · have hi : i < 25 := hi
          match i, h17, hi, this with
          | 0, _, _, t => exact t
          | 1, _, _, t => exact t
          | 2, _, _, t => exact t
          | 3, _, _, t => exact t
          | 4, _, _, t => exact t
          | 5, _, _, t => exact t
          | 6, _, _, t => exact t
          | 7, _, _, t => exact t
          | 8, _, _, t => exact t
          | 9, _, _, t => exact t
          | 10, _, _, t => exact t
          | 11, _, _, t => exact t
          | 12, _, _, t => exact t
          | 13, _, _, t => exact t
          | 14, _, _, t => exact t
          | 15, _, _, t => exact t
          | 16, _, _, t => exact t
          | 18, _, _, t => exact t
          | 19, _, _, t => exact t
          | 20, _, _, t => exact t
          | 21, _, _, t => exact t
          | 22, _, _, t => exact t
          | 23, _, _, t => exact t
          | 24, _, _, t => exact t
          | 17, h, _, _ => exact absurd rfl h
          | i + 25, _, h, _ => exact absurd h (by omega)
    · cases h
      exact hv
    · cases h
  · cases h
theorem weaken {g : Nat} {xs ys : List A} {C : Cx} {R : Type} {k : A → Heap → Option R} {r : R} (h : ∀ vs, VRl C xs vs → VRl C ys vs) (hc : CallOk Try.prog g ys C k r) : CallOk Try.prog g xs C k r := ⟨hc.1, fun vs hvs => hc.2 vs (h vs hvs)⟩

def okFL (f : Fc) (l : List CallT.den) : Bool := chkF f && chkL l
def trueTE (ok : Fc → List CallT.den → Bool) : TE := fun _ xs H k => match xs with
  | [.agg cs, lv] => match decX cs, asCalls lv with
    | some f, some l => br (ok f l) (k (.bool true) H) none
    | _, _ => none
  | _ => none
def trueTE2 (ok : Fc → List CallT.den → Bool) : TE := fun _ xs H k => match xs with
  | [.agg cs, lv, .bool _, .int .i64 _] => match decX cs, asCalls lv with
    | some f, some l => br (ok f l) (k (.bool true) H) none
    | _, _ => none
  | _ => none

noncomputable def T9 : Tab := tabL (fnsT isF pF wF) [(9, 6, l9 L9e), (10, 6, l10 L10e), (11, 7, l11 L11e), (12, 7, l12 L12e)]
theorem T9_ok : TabOk Try.prog T9 := tabL_ok fnsT_ok fun p hp => by
  simp only [List.mem_cons, List.not_mem_nil, or_false] at hp
  rcases hp with rfl | rfl | rfl | rfl
  · exact l9_ok
  · exact l10_ok
  · exact l11_ok
  · exact l12_ok

section
variable {R : Type} (L9 : Fc → Fc → List CallT.den → St → St → Int → Int → Option R9) (L10 : Fc → List CallT.den → St → Int → Bool → Int → Option R10) (L11 L12 : Fc → Fc → List CallT.den → Bool → Int → St → St → Int → Int → Option R9) (iF : Ou → Ou → Bool) (p : Fs) (w : Fw) (fk ty : Int) (rm : Bool) (rs ag up dn : Int) (ex : List Str) (l : List CallT.den) (exits : Bool) (code : Int) (H : Heap) (k : A → Heap → Option R)
theorem pure9 : pureTE E (tabL (fnsT iF p w) [(9, 6, l9 L9), (10, 6, l10 L10), (11, 7, l11 L11), (12, 7, l12 L12)]) 2 8 9 R [.agg (f0 true fk ty rm rs ag up dn (.sl .str ex)), .sl CallT l] H k = f9 L9 iF p w fk ty rm rs ag up dn ex l (fun b => k (.bool b) H) := by kernel_rfl
theorem pure10 : pureTE E (tabL (fnsT iF p w) [(9, 6, l9 L9), (10, 6, l10 L10), (11, 7, l11 L11), (12, 7, l12 L12)]) 2 8 10 R [.agg (f0 true fk ty rm rs ag up dn (.sl .str ex)), .sl CallT l] H k = f10 L10 iF p w fk ty rm rs ag up dn ex l (fun b => k (.bool b) H) := by kernel_rfl
theorem pure11 : pureTE E (tabL (fnsT iF p w) [(9, 6, l9 L9), (10, 6, l10 L10), (11, 7, l11 L11), (12, 7, l12 L12)]) 2 8 11 R [.agg (f0 true fk ty rm rs ag up dn (.sl .str ex)), .sl CallT l, .bool exits, .int .i64 code] H k = f11 L11 iF p w fk ty rm rs ag up dn ex l exits code (fun b => k (.bool b) H) := by kernel_rfl
theorem pure12 : pureTE E (tabL (fnsT iF p w) [(9, 6, l9 L9), (10, 6, l10 L10), (11, 7, l11 L11), (12, 7, l12 L12)]) 2 8 12 R [.agg (f0 true fk ty rm rs ag up dn (.sl .str ex)), .sl CallT l, .bool exits, .int .i64 code] H k = f12 L12 iF p w fk ty rm rs ag up dn ex l exits code (fun b => k (.bool b) H) := by kernel_rfl
end

theorem VRl2 {C : Cx} {a a' b : A} {vs : Array Value} (h : ∀ v, VR C a v → VR C a' v) (hv : VRl C [a, b] vs) : VRl C [a', b] vs := ⟨hv.1, fun i hi => by
  match i with
  | 0 => exact h _ (hv.2 0 (by simp))
  | 1 => exact hv.2 1 (by simp)
  | i + 2 => exact absurd hi (by simp)⟩
theorem VRl4 {C : Cx} {a a' b c d : A} {vs : Array Value} (h : ∀ v, VR C a v → VR C a' v) (hv : VRl C [a, b, c, d] vs) : VRl C [a', b, c, d] vs := ⟨hv.1, fun i hi => by
  match i with
  | 0 => exact h _ (hv.2 0 (by simp))
  | 1 => exact hv.2 1 (by simp)
  | 2 => exact hv.2 2 (by simp)
  | 3 => exact hv.2 3 (by simp)
  | i + 4 => exact absurd hi (by simp)⟩

theorem true9 : FnOk Try.prog 9 (trueTE okFL) := fun R xs C k r hR h => by
  unfold trueTE at h
  split at h
  case h_2 => cases h
  split at h
  case h_2 => cases h
  rename_i f l e1 e2
  rw [asCalls_eq e2]
  refine weaken (fun vs hv => VRl2 (fun v hv => decX_VR e1 hv) hv) (pureTE_ok E_ok T9_ok R _ C k r hR (u := 2) (d := 8) ?_)
  rw [br_eq] at h
  split at h
  case isFalse => cases h
  rename_i hk
  simp only [okFL, Bool.and_eq_true] at hk
  exact (pure9 ..).trans ((plays_true (f := f) hk.1 hk.2 _).trans h)
theorem true10 : FnOk Try.prog 10 (trueTE okFL) := fun R xs C k r hR h => by
  unfold trueTE at h
  split at h
  case h_2 => cases h
  split at h
  case h_2 => cases h
  rename_i f l e1 e2
  rw [asCalls_eq e2]
  refine weaken (fun vs hv => VRl2 (fun v hv => decX_VR e1 hv) hv) (pureTE_ok E_ok T9_ok R _ C k r hR (u := 2) (d := 8) ?_)
  rw [br_eq] at h
  split at h
  case isFalse => cases h
  rename_i hk
  simp only [okFL, Bool.and_eq_true] at hk
  exact (pure10 ..).trans ((process_true (f := f) hk.1 hk.2 _).trans h)
theorem true11 : FnOk Try.prog 11 (trueTE2 okFL) := fun R xs C k r hR h => by
  unfold trueTE2 at h
  split at h
  case h_2 => cases h
  split at h
  case h_2 => cases h
  rename_i f l e1 e2
  rw [asCalls_eq e2]
  refine weaken (fun vs hv => VRl4 (fun v hv => decX_VR e1 hv) hv) (pureTE_ok E_ok T9_ok R _ C k r hR (u := 2) (d := 8) ?_)
  rw [br_eq] at h
  split at h
  case isFalse => cases h
  rename_i hk
  simp only [okFL, Bool.and_eq_true] at hk
  exact (pure11 ..).trans ((results_true (f := f) hk.1 hk.2 _).trans h)
theorem true12 : FnOk Try.prog 12 (trueTE2 okFL) := fun R xs C k r hR h => by
  unfold trueTE2 at h
  split at h
  case h_2 => cases h
  split at h
  case h_2 => cases h
  rename_i f l e1 e2
  rw [asCalls_eq e2]
  refine weaken (fun vs hv => VRl4 (fun v hv => decX_VR e1 hv) hv) (pureTE_ok E_ok T9_ok R _ C k r hR (u := 2) (d := 8) ?_)
  rw [br_eq] at h
  split at h
  case isFalse => cases h
  rename_i hk
  simp only [okFL, Bool.and_eq_true] at hk
  exact (pure12 ..).trans ((stops_true (f := f) hk.1 hk.2 _).trans h)

end Go.VI.Svc
