/-
  What functions of the machines' law come to: sums, times, the chapter's examples.
-/
import Derived.Test.YtjocfknaojbemaaSvcTab
import Derived.Test.YtjocfknaojbemaaVILoop
namespace Go.VI.Svc
open Go.Proofs

noncomputable def T0 : Tab := { fns := fun _ => none, loops := fun _ _ => none }
theorem T0_ok : TabOk Try.prog T0 where
  fns g te h := by cases h
  loops f b l fn _ h := by cases h

/-- A table of some contracts. -/
def lukT : List (Nat × TE) → Nat → Option TE
  | [], _ => none
  | (k, v) :: r, n => bif Nat.beq k n then some v else lukT r n
noncomputable def tab (l : List (Nat × TE)) : Tab := { fns := lukT l, loops := fun _ _ => none }
def TEok (g : Nat) (te : TE) : Prop := ∀ (R : Type) (xs : List A) (C : Cx) (k : A → Heap → Option R) (r : R), Rel C → te R xs C.H k = some r → CallOk Try.prog g xs C k r
theorem lukT_mem : ∀ {l : List (Nat × TE)} {g : Nat} {te : TE}, lukT l g = some te → (g, te) ∈ l
  | [], _, _, h => by cases h
  | (k, v) :: r, g, te, h => by
    simp only [lukT] at h
    cases hb : Nat.beq k g with
    | true =>
      rw [hb] at h
      cases h
      rw [Nat.eq_of_beq_eq_true hb]
      simp
    | false =>
      rw [hb] at h
      exact List.mem_cons_of_mem _ (lukT_mem h)
theorem tab_ok {l : List (Nat × TE)} (h : ∀ p ∈ l, TEok p.1 p.2) : TabOk Try.prog (tab l) where
  fns g te hg R xs C k r hR hk := h _ (lukT_mem hg) R xs C k r hR hk
  loops f b l fn _ h := by cases h

/-- works: the chapter's examples: true. -/
def worksTE : TE := fun _ xs H k => match xs with
  | [] => k (.bool true) H
  | _ => none
theorem works_eq (R : Type) (H : Heap) (k : A → Heap → Option R) : worksTE R [] H k = pureTE E T0 40 12 21 R [] H k := by kernel_rfl
theorem works_ok : TEok 21 worksTE := fun R xs C k r hR h => by
  have h' := h
  unfold worksTE at h'
  split at h'
  · rw [works_eq] at h
    exact pureTE_ok E_ok T0_ok R _ C k r hR h
  · cases h'

/-- usec.Add: the sum, and does it fit. -/
def addTE : TE := fun _ xs H k => match xs with
  | [.int .i64 a, .int .i64 b] =>
    br (!!ieq (shrK .u64 (wrapK .u64 a) 63) (shrK .u64 (wrapK .u64 b) 63))
      (br (!ieq (shrK .u64 (wrapK .u64 (wrapK .i64 (a + b))) 63) (shrK .u64 (wrapK .u64 a) 63)) (k (.tup [.int .i64 0, .bool false]) H) (k (.tup [.int .i64 (wrapK .i64 (a + b)), .bool true]) H))
      (k (.tup [.int .i64 (wrapK .i64 (a + b)), .bool true]) H)
  | _ => none
theorem add_eq (R : Type) (a b : Int) (H : Heap) (k : A → Heap → Option R) : addTE R [.int .i64 a, .int .i64 b] H k = pureTE E T0 0 6 82 R [.int .i64 a, .int .i64 b] H k := by kernel_rfl
def addV (a b : Int) : Int := br (!!ieq (shrK .u64 (wrapK .u64 a) 63) (shrK .u64 (wrapK .u64 b) 63))
  (br (!ieq (shrK .u64 (wrapK .u64 (wrapK .i64 (a + b))) 63) (shrK .u64 (wrapK .u64 a) 63)) 0 (wrapK .i64 (a + b))) (wrapK .i64 (a + b))
def addOk (a b : Int) : Bool := br (!!ieq (shrK .u64 (wrapK .u64 a) 63) (shrK .u64 (wrapK .u64 b) 63))
  (br (!ieq (shrK .u64 (wrapK .u64 (wrapK .i64 (a + b))) 63) (shrK .u64 (wrapK .u64 a) 63)) false true) true
/-- The same, without branches. -/
def addTE1 : TE := fun _ xs H k => match xs with
  | [.int .i64 a, .int .i64 b] => k (.tup [.int .i64 (addV a b), .bool (addOk a b)]) H
  | _ => none
theorem add_eq1 (R : Type) (a b : Int) (H : Heap) (k : A → Heap → Option R) : addTE1 R [.int .i64 a, .int .i64 b] H k = addTE R [.int .i64 a, .int .i64 b] H k := by
  simp only [addTE1, addTE, addV, addOk]
  cases !!ieq (shrK .u64 (wrapK .u64 a) 63) (shrK .u64 (wrapK .u64 b) 63) <;> cases !ieq (shrK .u64 (wrapK .u64 (wrapK .i64 (a + b))) 63) (shrK .u64 (wrapK .u64 a) 63) <;> rfl
theorem add_ok : TEok 82 addTE1 := fun R xs C k r hR h => by
  have h' := h
  unfold addTE1 at h'
  split at h'
  · rw [add_eq1, add_eq] at h
    exact pureTE_ok E_ok T0_ok R _ C k r hR h
  · cases h'

noncomputable def T1 : Tab := tab [(82, addTE1)]
theorem T1_ok : TabOk Try.prog T1 := tab_ok fun p hp => by
  simp only [List.mem_singleton] at hp
  subst hp
  exact add_ok

end Go.VI.Svc
