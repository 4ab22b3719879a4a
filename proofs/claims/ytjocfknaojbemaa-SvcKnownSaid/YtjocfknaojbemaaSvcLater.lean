/-
  A time and a span: the program's, and the document's; they are the same.
-/
import Derived.Test.YtjocfknaojbemaaSvcFn
namespace Go.VI.Svc
open Go.Proofs

def top : Int := 9223372036854775807
def laterB (t s : Int) : Bool := br (br (!addOk t (br (ilt 0 s) s 0)) true (ieq t 9223372036854775807)) true (ieq s 9223372036854775807)
def laterV (t s : Int) : Int := br (laterB t s) 9223372036854775807 (addV t (br (ilt 0 s) s 0))
/-- usec.Later. -/
def laterTE0 : TE := fun _ xs H k => match xs with
  | [.int .i64 t, .int .i64 s] => br (laterB t s) (k (.int .i64 9223372036854775807) H) (k (.int .i64 (addV t (br (ilt 0 s) s 0))) H)
  | _ => none
theorem later_eq0 (R : Type) (t s : Int) (H : Heap) (k : A → Heap → Option R) : laterTE0 R [.int .i64 t, .int .i64 s] H k = pureTE E T1 0 6 51 R [.int .i64 t, .int .i64 s] H k := by kernel_rfl
def laterTE : TE := fun _ xs H k => match xs with
  | [.int .i64 t, .int .i64 s] => k (.int .i64 (laterV t s)) H
  | _ => none
theorem later_eq (R : Type) (t s : Int) (H : Heap) (k : A → Heap → Option R) : laterTE R [.int .i64 t, .int .i64 s] H k = laterTE0 R [.int .i64 t, .int .i64 s] H k := by
  simp only [laterTE, laterTE0, laterV]
  cases laterB t s <;> rfl
theorem later_ok : TEok 51 laterTE := fun R xs C k r hR h => by
  have h' := h
  unfold laterTE at h'
  split at h'
  · rw [later_eq, later_eq0] at h
    exact pureTE_ok E_ok T1_ok R _ C k r hR h
  · cases h'

def laterC (t s : Int) : Bool := br (ilt s 0) (br (br (ieq t 9223372036854775807) true false) true (ilt 9223372036854775807 t))
  (br (br (ieq t 9223372036854775807) true (ieq s 9223372036854775807)) true (ilt (wrapK .i64 (9223372036854775807 - s)) t))
def laterW (t s : Int) : Int := br (laterC t s) 9223372036854775807 (br (ilt s 0) (wrapK .i64 (t + 0)) (wrapK .i64 (t + s)))
/-- The document's. -/
def laterWTE0 : TE := fun _ xs H k => match xs with
  | [.int .i64 t, .int .i64 s] => br (ilt s 0)
      (br (br (br (ieq t 9223372036854775807) true false) true (ilt 9223372036854775807 t)) (k (.int .i64 9223372036854775807) H) (k (.int .i64 (wrapK .i64 (t + 0))) H))
      (br (br (br (ieq t 9223372036854775807) true (ieq s 9223372036854775807)) true (ilt (wrapK .i64 (9223372036854775807 - s)) t)) (k (.int .i64 9223372036854775807) H) (k (.int .i64 (wrapK .i64 (t + s))) H))
  | _ => none
theorem laterW_eq0 (R : Type) (t s : Int) (H : Heap) (k : A → Heap → Option R) : laterWTE0 R [.int .i64 t, .int .i64 s] H k = pureTE E T1 0 6 80 R [.int .i64 t, .int .i64 s] H k := by kernel_rfl
def laterWTE : TE := fun _ xs H k => match xs with
  | [.int .i64 t, .int .i64 s] => k (.int .i64 (laterW t s)) H
  | _ => none
theorem laterW_eq (R : Type) (t s : Int) (H : Heap) (k : A → Heap → Option R) : laterWTE R [.int .i64 t, .int .i64 s] H k = laterWTE0 R [.int .i64 t, .int .i64 s] H k := by
  simp only [laterWTE, laterWTE0, laterW, laterC]
  cases ilt s 0
  · cases br (br (ieq t 9223372036854775807) true (ieq s 9223372036854775807)) true (ilt (wrapK .i64 (9223372036854775807 - s)) t) <;> rfl
  · cases br (br (ieq t 9223372036854775807) true false) true (ilt 9223372036854775807 t) <;> rfl
theorem laterW_ok : TEok 80 laterWTE := fun R xs C k r hR h => by
  have h' := h
  unfold laterWTE at h'
  split at h'
  · rw [laterW_eq, laterW_eq0] at h
    exact pureTE_ok E_ok T1_ok R _ C k r hR h
  · cases h'

def In64 (n : Int) : Prop := -9223372036854775808 ≤ n ∧ n ≤ 9223372036854775807
instance (n : Int) : Decidable (In64 n) := inferInstanceAs (Decidable (_ ∧ _))
theorem wrap64 (n : Int) : wrapK .i64 n = (n + 9223372036854775808) % 18446744073709551616 - 9223372036854775808 := by
  rw [wrapK_eq, IntKind.wrap_i64]
theorem top_u64 {a : Int} (h : In64 a) : shrK .u64 (wrapK .u64 a) 63 = if a < 0 then 1 else 0 := by
  rw [shrK_eq, wrapK_eq]
  obtain ⟨h1, h2⟩ := h
  have e1 : IntKind.u64.wrap a = a % 18446744073709551616 := by
    simp [IntKind.wrap, IntKind.bits, IntKind.signed]
  have e2 : (2 : Int) ^ (min (Int.toNat 63) IntKind.u64.bits) = 9223372036854775808 := by decide
  rw [e1, e2, Int.fdiv_eq_ediv_of_nonneg _ (by omega)]
  by_cases ha : a < 0
  · rw [if_pos ha]; omega
  · rw [if_neg ha]; omega
theorem wrap_in (n : Int) : In64 (wrapK .i64 n) := by
  rw [wrap64]; constructor <;> omega
theorem add_spec {a b : Int} (ha : In64 a) (hb : In64 b) : addOk a b = decide (In64 (a + b)) ∧ addV a b = if In64 (a + b) then a + b else 0 := by
  unfold addOk addV
  rw [top_u64 ha, top_u64 hb, top_u64 (wrap_in _), wrap64]
  simp only [br_eq, ieq_eq]
  obtain ⟨a1, a2⟩ := ha
  obtain ⟨b1, b2⟩ := hb
  by_cases hc : In64 (a + b)
  · have hw : (a + b + 9223372036854775808) % 18446744073709551616 - 9223372036854775808 = a + b := by
      obtain ⟨c1, c2⟩ := hc; omega
    rw [hw]
    simp only [hc, decide_true, if_true]
    by_cases x : a < 0 <;> by_cases y : b < 0 <;> by_cases z : a + b < 0 <;> simp [x, y, z] <;> omega
  · simp only [hc, decide_false, if_false]
    have hc' : a + b < -9223372036854775808 ∨ 9223372036854775807 < a + b := by
      unfold In64 at hc; omega
    by_cases x : a < 0 <;> by_cases y : b < 0 <;> by_cases z : (a + b + 9223372036854775808) % 18446744073709551616 - 9223372036854775808 < 0 <;> simp [x, y, z] <;> omega

/-- They are the same. -/
theorem later_same {t s : Int} (ht : In64 t) (hs : In64 s) : laterV t s = laterW t s := by
  have hs' : In64 (br (ilt 0 s) s 0) := by
    rw [br_eq, ilt_eq]
    split
    · exact hs
    · constructor <;> decide
  obtain ⟨e1, e2⟩ := add_spec ht hs'
  unfold laterV laterW laterB laterC
  rw [e1, e2, wrap64, wrap64, wrap64]
  simp only [br_eq, ilt_eq, ieq_eq]
  obtain ⟨t1, t2⟩ := ht
  obtain ⟨s1, s2⟩ := hs
  unfold In64
  by_cases h1 : 0 < s
  · have h2 : ¬ s < 0 := by omega
    by_cases h3 : t = 9223372036854775807 <;> by_cases h4 : s = 9223372036854775807 <;> by_cases h5 : t + s ≤ 9223372036854775807 <;> simp [h1, h2, h3, h4] <;> (try split) <;> omega
  · by_cases h2 : s < 0
    · by_cases h3 : t = 9223372036854775807 <;> simp [h1, h2, h3] <;> (try split) <;> omega
    · have h0 : s = 0 := by omega
      subst h0
      by_cases h3 : t = 9223372036854775807 <;> simp [h3] <;> (try split) <;> omega

noncomputable def T2 : Tab := tab [(21, worksTE), (51, laterTE), (80, laterWTE)]
theorem T2_ok : TabOk Try.prog T2 := tab_ok fun p hp => by
  simp only [List.mem_cons, List.not_mem_nil, or_false] at hp
  rcases hp with rfl | rfl | rfl
  · exact works_ok
  · exact later_ok
  · exact laterW_ok

end Go.VI.Svc
