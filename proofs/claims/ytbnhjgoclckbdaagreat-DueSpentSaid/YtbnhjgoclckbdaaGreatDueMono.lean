/-
  DueMono: what it comes to, as a tree of tests.
-/
import Derived.Test.YtbnhjgoclckbdaaGreatDueFn
namespace Go.VI.Due
open Go.Proofs

noncomputable def T2 : Tab := { fns := fun f => if Nat.beq f 6 then some ofTE else if Nat.beq f 5 then some worksTE else none, loops := fun _ _ => none }

theorem T2_ok : TabOk Tryz.prog T2 where
  fns g te h R xs C k r hR hk := by
    simp only [T2] at h
    split at h
    · rename_i hg
      have := Nat.eq_of_beq_eq_true hg
      subst this
      cases h
      exact of_ok R xs C k r hR hk
    · split at h
      · rename_i hg
        have := Nat.eq_of_beq_eq_true hg
        subst this
        cases h
        exact works_ok R xs C k r hR hk
      · cases h
  loops f b l fn h := by cases h

def bad (f s k6 : Int) : Bool := br (br (br (br (ilt f 0) true (ilt s 0)) true (ieq s 9223372036854775807)) true (ilt (wrapK .i64 (9223372036854775807 - f)) s)) true (ile (wrapK .i64 (f + s)) k6)
def yes : Option A := some (.bool true)
def no : Option A := some (.bool false)
def monoTree (kd s k1 k2 k3 k4 k6 : Int) : Option A :=
  let o := ofBad kd s k1 k2 k3 k4 k6
  let v := addV (fromV kd k1 k2 k3 k4) s
  let t (f : Int) : Option A := br (bad f s k6) yes no
  let g (f : Int) : Option A := br (bad f s k6) no (br (true && (ieq v (wrapK .i64 (f + s)) && true)) yes no)
  br (ieq kd 1) yes (br (ieq kd 1) none (br o
    (br (ieq kd 2) (t k2) (br (ieq kd 3) (t 0) (br (ieq kd 4) (t k1) (br (ieq kd 5) (t k3) (br (ieq kd 6) (t k4) yes)))))
    (br (ieq kd 2) (g k2) (br (ieq kd 3) (g 0) (br (ieq kd 4) (g k1) (br (ieq kd 5) (g k3) (br (ieq kd 6) (g k4) no)))))))

theorem mono_eq (kd s : Int) (t : Str) (k1 k2 k3 k4 k5 k6 : Int) :
    viF E T2 0 6 3 [.agg [.int .u8 kd, .int .i64 s, .str t], .agg [.int .i64 k1, .int .i64 k2, .int .i64 k3, .int .i64 k4, .int .i64 k5, .int .i64 k6]] ⟨0, []⟩ (fun v _ => some v) = monoTree kd s k1 k2 k3 k4 k6 := by kernel_rfl

end Go.VI.Due
