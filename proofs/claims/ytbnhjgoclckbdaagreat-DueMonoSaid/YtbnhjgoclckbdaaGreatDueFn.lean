/-
  What the functions of the triggers' laws come to.
-/
import Derived.Test.YtbnhjgoclckbdaaGreatDueTab
namespace Go.VI.Due
open Go.Proofs

noncomputable def T0 : Tab := { fns := fun _ => none, loops := fun _ _ => none }

/-- usec.Add: the sum, and does it fit. -/
def addTE : TE := fun _ xs H k => match xs with
  | [.int .i64 a, .int .i64 b] =>
    br (!!ieq (shrK .u64 (wrapK .u64 a) 63) (shrK .u64 (wrapK .u64 b) 63))
      (br (!ieq (shrK .u64 (wrapK .u64 (wrapK .i64 (a + b))) 63) (shrK .u64 (wrapK .u64 a) 63)) (k (.tup [.int .i64 0, .bool false]) H) (k (.tup [.int .i64 (wrapK .i64 (a + b)), .bool true]) H))
      (k (.tup [.int .i64 (wrapK .i64 (a + b)), .bool true]) H)
  | _ => none

theorem add_eq (R : Type) (a b : Int) (H : Heap) (k : A → Heap → Option R) : addTE R [.int .i64 a, .int .i64 b] H k = pureTE E T0 0 6 10 R [.int .i64 a, .int .i64 b] H k := by kernel_rfl

def addV (a b : Int) : Int := br (!!ieq (shrK .u64 (wrapK .u64 a) 63) (shrK .u64 (wrapK .u64 b) 63))
  (br (!ieq (shrK .u64 (wrapK .u64 (wrapK .i64 (a + b))) 63) (shrK .u64 (wrapK .u64 a) 63)) 0 (wrapK .i64 (a + b))) (wrapK .i64 (a + b))
def addOk (a b : Int) : Bool := br (!!ieq (shrK .u64 (wrapK .u64 a) 63) (shrK .u64 (wrapK .u64 b) 63))
  (br (!ieq (shrK .u64 (wrapK .u64 (wrapK .i64 (a + b))) 63) (shrK .u64 (wrapK .u64 a) 63)) false true) true

/-- The same, without branches. -/
def addTE1 : TE := fun _ xs H k => match xs with
  | [.int .i64 a, .int .i64 b] => k (.tup [.int .i64 (addV a b), .bool (addOk a b)]) H
  | _ => none
theorem add_eq1 (R : Type) (a b : Int) (H : Heap) (k : A → Heap → Option R) : addTE1 R [.int .i64 a, .int .i64 b] H k = addTE R [.int .i64 a, .int .i64 b] H k := by
  simp only [addTE1, addTE, addV, addOk]
  cases !!ieq (shrK .u64 (wrapK .u64 a) 63) (shrK .u64 (wrapK .u64 b) 63) <;> cases !ieq (shrK .u64 (wrapK .u64 (wrapK .i64 (a + b))) 63) (shrK .u64 (wrapK .u64 a) 63) <;> rfl

noncomputable def T1 : Tab := { fns := fun f => if Nat.beq f 10 then some addTE1 else none, loops := fun _ _ => none }

def mapV (kd k1 k2 k3 k4 : Int) : Option Int := look (κ := .int .u8) (ν := .int .i64) [(2, k2), (3, 0), (4, k1), (5, k3), (6, k4)] kd
def fromV (kd k1 k2 k3 k4 : Int) : Int := (mapV kd k1 k2 k3 k4).getD 0
def ofBad (kd s k1 k2 k3 k4 k6 : Int) : Bool :=
  br (br (br (br (!(mapV kd k1 k2 k3 k4).isSome) true (!addOk (fromV kd k1 k2 k3 k4) s)) true (ilt (br (ilt s (fromV kd k1 k2 k3 k4)) s (fromV kd k1 k2 k3 k4)) 0)) true (ieq s 9223372036854775807)) true
    (ile (addV (fromV kd k1 k2 k3 k4) s) k6)
/-- due.Of, of a kind that is no calendar's. -/
def ofTE : TE := fun _ xs H k => match xs with
  | [.agg [.int .u8 kd, .int .i64 s, .str _], .agg [.int .u8 0, .nils, .nils, .nils, .bool false, .nils, .nils, .nils, .bool false], .nilp, .agg [.int .i64 k1, .int .i64 k2, .int .i64 k3, .int .i64 k4, .int .i64 _, .int .i64 k6]] =>
    br (ieq kd 1) none (br (ofBad kd s k1 k2 k3 k4 k6) (k (.tup [.agg [.bool false, .int .i64 0], .bool false]) H) (k (.tup [.agg [.bool false, .int .i64 (addV (fromV kd k1 k2 k3 k4) s)], .bool true]) H))
  | _ => none
theorem of_eq (R : Type) (kd s : Int) (t : Str) (k1 k2 k3 k4 k5 k6 : Int) (H : Heap) (k : A → Heap → Option R) :
    ofTE R [.agg [.int .u8 kd, .int .i64 s, .str t], .agg [.int .u8 0, .nils, .nils, .nils, .bool false, .nils, .nils, .nils, .bool false], .nilp, .agg [.int .i64 k1, .int .i64 k2, .int .i64 k3, .int .i64 k4, .int .i64 k5, .int .i64 k6]] H k =
    pureTE E T1 0 6 6 R [.agg [.int .u8 kd, .int .i64 s, .str t], .agg [.int .u8 0, .nils, .nils, .nils, .bool false, .nils, .nils, .nils, .bool false], .nilp, .agg [.int .i64 k1, .int .i64 k2, .int .i64 k3, .int .i64 k4, .int .i64 k5, .int .i64 k6]] H k := by kernel_rfl

theorem T0_ok : TabOk Tryz.prog T0 where
  fns g te h := by cases h
  loops f b l fn h := by cases h

theorem add_ok (R : Type) (xs : List A) (C : Cx) (k : A → Heap → Option R) (r : R) (hR : Rel C) (h : addTE1 R xs C.H k = some r) : CallOk Tryz.prog 10 xs C k r := by
  have h' := h
  unfold addTE1 at h'
  split at h'
  · rw [add_eq1, add_eq] at h
    exact pureTE_ok E_ok T0_ok R _ C k r hR h
  · cases h'

theorem T1_ok : TabOk Tryz.prog T1 where
  fns g te h R xs C k r hR hk := by
    simp only [T1] at h
    split at h
    · rename_i hg
      have := Nat.eq_of_beq_eq_true hg
      subst this
      cases h
      exact add_ok R xs C k r hR hk
    · cases h
  loops f b l fn h := by cases h

theorem of_ok (R : Type) (xs : List A) (C : Cx) (k : A → Heap → Option R) (r : R) (hR : Rel C) (h : ofTE R xs C.H k = some r) : CallOk Tryz.prog 6 xs C k r := by
  have h' := h
  unfold ofTE at h'
  split at h'
  · rw [of_eq] at h
    exact pureTE_ok E_ok T1_ok R _ C k r hR h
  · cases h'

/-- works: the chapter's examples: true. -/
def worksTE : TE := fun _ xs H k => match xs with
  | [] => k (.bool true) H
  | _ => none
theorem works_eq (R : Type) (H : Heap) (k : A → Heap → Option R) : worksTE R [] H k = pureTE E T0 0 6 5 R [] H k := by kernel_rfl
theorem works_ok (R : Type) (xs : List A) (C : Cx) (k : A → Heap → Option R) (r : R) (hR : Rel C) (h : worksTE R xs C.H k = some r) : CallOk Tryz.prog 5 xs C k r := by
  have h' := h
  unfold worksTE at h'
  split at h'
  · rw [works_eq] at h
    exact pureTE_ok E_ok T0_ok R _ C k r hR h
  · cases h'

end Go.VI.Due
