/-
  The plain law of DueMono.
-/
import Derived.Test.YtbnhjgoclckbdaaGreatDueMono
namespace Go.VI.Due

def In64 (n : Int) : Prop := -9223372036854775808 ≤ n ∧ n ≤ 9223372036854775807

instance (n : Int) : Decidable (In64 n) := inferInstanceAs (Decidable (_ ∧ _))

theorem wrap64 (n : Int) : wrapK .i64 n = (n + 9223372036854775808) % 18446744073709551616 - 9223372036854775808 := by
  rw [wrapK_eq, IntKind.wrap_i64]

theorem top_u64 {a : Int} (h : In64 a) : shrK .u64 (wrapK .u64 a) 63 = if a < 0 then 1 else 0 := by
  rw [shrK_eq, wrapK_eq]
  obtain ⟨h1, h2⟩ := h
  have e1 : IntKind.u64.wrap a = a % 18446744073709551616 := by
    simp [IntKind.wrap, IntKind.bits, IntKind.signed]
  have e2 : (2 : Int) ^ (min (Int.toNat 63) IntKind.u64.bits) = 9223372036854775808 := by decide
  rw [e1, e2, Int.fdiv_eq_ediv_of_nonneg _ (by omega)]
  by_cases ha : a < 0
  · rw [if_pos ha]; omega
  · rw [if_neg ha]; omega

theorem wrap_in (n : Int) : In64 (wrapK .i64 n) := by
  rw [wrap64]; constructor <;> omega

theorem add_spec {a b : Int} (ha : In64 a) (hb : In64 b) : addOk a b = decide (In64 (a + b)) ∧ addV a b = if In64 (a + b) then a + b else 0 := by
  unfold addOk addV
  rw [top_u64 ha, top_u64 hb, top_u64 (wrap_in _), wrap64]
  simp only [br_eq, ieq_eq]
  obtain ⟨a1, a2⟩ := ha
  obtain ⟨b1, b2⟩ := hb
  by_cases hc : In64 (a + b)
  · have hw : (a + b + 9223372036854775808) % 18446744073709551616 - 9223372036854775808 = a + b := by
      obtain ⟨c1, c2⟩ := hc; omega
    rw [hw]
    simp only [hc, decide_true, if_true]
    by_cases x : a < 0 <;> by_cases y : b < 0 <;> by_cases z : a + b < 0 <;> simp [x, y, z] <;> omega
  · simp only [hc, decide_false, if_false]
    have hc' : a + b < -9223372036854775808 ∨ 9223372036854775807 < a + b := by
      unfold In64 at hc; omega
    by_cases x : a < 0 <;> by_cases y : b < 0 <;> by_cases z : (a + b + 9223372036854775808) % 18446744073709551616 - 9223372036854775808 < 0 <;> simp [x, y, z] <;> omega

theorem mapV_spec (kd k1 k2 k3 k4 : Int) : mapV kd k1 k2 k3 k4 = if kd = 2 then some k2 else if kd = 3 then some 0 else if kd = 4 then some k1 else if kd = 5 then some k3 else if kd = 6 then some k4 else none := by
  unfold mapV look
  simp only [List.find?, Ty.beq, ieq_eq]
  by_cases h2 : kd = 2
  · subst h2; rfl
  by_cases h3 : kd = 3
  · subst h3; rfl
  by_cases h4 : kd = 4
  · subst h4; rfl
  by_cases h5 : kd = 5
  · subst h5; rfl
  by_cases h6 : kd = 6
  · subst h6; rfl
  simp [h2, h3, h4, h5, h6, Ne.symm h2, Ne.symm h3, Ne.symm h4, Ne.symm h5, Ne.symm h6]

/-- The tests of the law and of the program agree. -/
theorem core {f s k6 : Int} (hf : In64 f) (hs : In64 s) :
    let o := br (br (br (br false true (!addOk f s)) true (ilt (br (ilt s f) s f) 0)) true (ieq s 9223372036854775807)) true (ile (addV f s) k6)
    (o = true → bad f s k6 = true) ∧ (o = false → bad f s k6 = false ∧ ieq (addV f s) (wrapK .i64 (f + s)) = true) := by
  intro o
  obtain ⟨e1, e2⟩ := add_spec hf hs
  simp only [o, bad, e1, e2, br_eq, ilt_eq, ieq_eq, ile_eq, wrap64]
  obtain ⟨f1, f2⟩ := hf
  obtain ⟨s1, s2⟩ := hs
  by_cases hc : In64 (f + s)
  · simp only [hc, decide_true, if_true]
    obtain ⟨c1, c2⟩ := hc
    have hw : (f + s + 9223372036854775808) % 18446744073709551616 - 9223372036854775808 = f + s := by omega
    rw [hw]
    constructor
    · intro h; simp at h ⊢; split at h <;> omega
    · intro h; simp at h ⊢; split at h <;> omega
  · simp only [hc, decide_false, if_false]
    have hc' : f + s < -9223372036854775808 ∨ 9223372036854775807 < f + s := by unfold In64 at hc; omega
    constructor
    · intro h; simp at h ⊢; omega
    · intro h; simp at h

theorem mono_case {f s k6 : Int} (hf : In64 f) (hs : In64 s) :
    br (br (br (br (br false true (!addOk f s)) true (ilt (br (ilt s f) s f) 0)) true (ieq s 9223372036854775807)) true (ile (addV f s) k6)) (br (bad f s k6) yes no)
      (br (bad f s k6) no (br (true && (ieq (addV f s) (wrapK .i64 (f + s)) && true)) yes no)) = yes := by
  have h := core (k6 := k6) hf hs
  cases ho : br (br (br (br false true (!addOk f s)) true (ilt (br (ilt s f) s f) 0)) true (ieq s 9223372036854775807)) true (ile (addV f s) k6) with
  | true => rw [h.1 ho]; rfl
  | false => rw [(h.2 ho).1, (h.2 ho).2]; rfl

theorem mono_law {kd s k1 k2 k3 k4 k6 : Int} (hs : In64 s) (h1 : In64 k1) (h2 : In64 k2) (h3 : In64 k3) (h4 : In64 k4) : monoTree kd s k1 k2 k3 k4 k6 = yes := by
  have h0 : In64 0 := by constructor <;> decide
  unfold monoTree ofBad fromV
  rw [mapV_spec]
  by_cases c1 : kd = 1
  · subst c1; rfl
  by_cases c2 : kd = 2
  · subst c2; exact mono_case h2 hs
  by_cases c3 : kd = 3
  · subst c3; exact mono_case h0 hs
  by_cases c4 : kd = 4
  · subst c4; exact mono_case h1 hs
  by_cases c5 : kd = 5
  · subst c5; exact mono_case h3 hs
  by_cases c6 : kd = 6
  · subst c6; exact mono_case h4 hs
  simp [c1, c2, c3, c4, c5, c6, ieq_eq, br_eq]

end Go.VI.Due
