/-
  DueSpent: what it comes to, as a tree of tests; and its plain law.
-/
import Derived.Test.YtbnhjgoclckbdaaGreatDueLaw
namespace Go.VI.Due
open Go.Proofs

def spentFin (kd s k1 k2 k3 k4 v n : Int) : Option A :=
  br (ieq kd 1) none (br (ofBad kd s (wrapK .i64 (k1 + n)) (wrapK .i64 (k2 + n)) (wrapK .i64 (k3 + n)) (wrapK .i64 (k4 + n)) v) no
    (br (ieq (addV (fromV kd (wrapK .i64 (k1 + n)) (wrapK .i64 (k2 + n)) (wrapK .i64 (k3 + n)) (wrapK .i64 (k4 + n))) s) (wrapK .i64 (v + n))) yes no))
def spentG (fin : Option A) (n f : Int) (x : Bool) : Option A := br (br (ilt (wrapK .i64 (f + n)) 0) true x) yes fin
def spentTree (kd s k1 k2 k3 k4 k6 m : Int) : Option A :=
  let n := wrapK .i64 (wrapK .i64 m + 1)
  let v := addV (fromV kd k1 k2 k3 k4) s
  let fin := spentFin kd s k1 k2 k3 k4 v n
  br (ieq kd 1) yes (br (ieq kd 1) none (br (ofBad kd s k1 k2 k3 k4 k6) yes (br (ieq kd 1) none (br (ofBad kd s k1 k2 k3 k4 v)
    (br (br (ile v k6) true false) no (br (br (ilt 1152921504606846976 v) true (ieq kd 3)) yes
      (br (ieq kd 2) (spentG fin n k2 (ilt 1152921504606846976 k2)) (br (ieq kd 3) (spentG fin n 0 false) (br (ieq kd 4) (spentG fin n k1 (ilt 1152921504606846976 k1))
        (br (ieq kd 5) (spentG fin n k3 (ilt 1152921504606846976 k3)) (br (ieq kd 6) (spentG fin n k4 (ilt 1152921504606846976 k4)) (spentG fin n 0 false)))))))) no))))

theorem spent_eq (kd s m : Int) (t : Str) (k1 k2 k3 k4 k5 k6 : Int) :
    viF E T2 0 6 4 [.agg [.int .u8 kd, .int .i64 s, .str t], .agg [.int .i64 k1, .int .i64 k2, .int .i64 k3, .int .i64 k4, .int .i64 k5, .int .i64 k6], .int .u32 m] ⟨0, []⟩ (fun v _ => some v) = spentTree kd s k1 k2 k3 k4 k6 m := by kernel_rfl

def ob (f s k : Int) : Bool := br (br (br (br false true (!addOk f s)) true (ilt (br (ilt s f) s f) 0)) true (ieq s 9223372036854775807)) true (ile (addV f s) k)
def Good (f s k : Int) : Prop := 0 ≤ f ∧ 0 ≤ s ∧ s < 9223372036854775807 ∧ f + s ≤ 9223372036854775807 ∧ k < f + s
theorem ob_spec {f s k : Int} (hf : In64 f) (hs : In64 s) : (ob f s k = true ∧ ¬ Good f s k) ∨ (ob f s k = false ∧ Good f s k ∧ addV f s = f + s) := by
  obtain ⟨e1, e2⟩ := add_spec hf hs
  simp only [ob, e1, e2, br_eq, ilt_eq, ieq_eq, ile_eq]
  obtain ⟨f1, f2⟩ := hf
  obtain ⟨s1, s2⟩ := hs
  unfold Good
  by_cases hc : In64 (f + s)
  · simp only [hc, decide_true, if_true]
    obtain ⟨c1, c2⟩ := hc
    by_cases hg : 0 ≤ f ∧ 0 ≤ s ∧ s < 9223372036854775807 ∧ f + s ≤ 9223372036854775807 ∧ k < f + s
    · refine .inr ⟨?_, hg, trivial⟩
      simp
      split <;> omega
    · refine .inl ⟨?_, hg⟩
      simp
      split <;> omega
  · simp only [hc, decide_false, if_false]
    refine .inl ⟨by simp, ?_⟩
    unfold In64 at hc
    omega

theorem spent_case {f s k6 m : Int} (hf : In64 f) (hs : In64 s) (hm : 0 ≤ m ∧ m ≤ 4294967295) (b : Bool) (fin : Option A)
    (hfin : b = false → fin = br (ob (wrapK .i64 (f + wrapK .i64 (wrapK .i64 m + 1))) s (addV f s)) no (br (ieq (addV (wrapK .i64 (f + wrapK .i64 (wrapK .i64 m + 1))) s) (wrapK .i64 (addV f s + wrapK .i64 (wrapK .i64 m + 1)))) yes no)) :
    br (ob f s k6) yes (br (ob f s (addV f s)) (br (br (ile (addV f s) k6) true false) no (br (br (ilt 1152921504606846976 (addV f s)) true b) yes
      (spentG fin (wrapK .i64 (wrapK .i64 m + 1)) f (ilt 1152921504606846976 f)))) no) = yes := by
  have hn : wrapK .i64 (wrapK .i64 m + 1) = m + 1 := by rw [wrap64, wrap64]; omega
  rw [hn] at hfin ⊢
  rcases ob_spec (k := k6) hf hs with ⟨h, -⟩ | ⟨h, hg, hv⟩
  · rw [h]; rfl
  rw [h]
  obtain ⟨g1, g2, g3, g4, g5⟩ := hg
  have h2 : ob f s (addV f s) = true := by
    rcases ob_spec (k := addV f s) hf hs with ⟨h, -⟩ | ⟨-, hg, -⟩
    · exact h
    · exact absurd hg.2.2.2.2 (by rw [hv]; omega)
  rw [h2]
  have h3 : ile (addV f s) k6 = false := by rw [ile_eq, hv]; simp; omega
  rw [h3]
  show br (br (ilt 1152921504606846976 (addV f s)) true b) yes _ = yes
  cases h4 : ilt 1152921504606846976 (addV f s) with
  | true => rfl
  | false =>
  cases b with
  | true => rfl
  | false =>
  rw [hfin rfl]
  rw [ilt_eq, hv] at h4
  simp at h4
  have hw : wrapK .i64 (f + (m + 1)) = f + (m + 1) := by rw [wrap64]; omega
  unfold spentG
  rw [hw]
  have h5 : ilt (f + (m + 1)) 0 = false := by rw [ilt_eq]; simp; omega
  have h6 : ilt 1152921504606846976 f = false := by rw [ilt_eq]; simp; omega
  rw [h5, h6]
  have hf' : In64 (f + (m + 1)) := by constructor <;> omega
  rcases ob_spec (k := addV f s) hf' hs with ⟨-, h⟩ | ⟨h, -, hv'⟩
  · exact absurd (show Good _ _ _ from ⟨by omega, by omega, by omega, by omega, by rw [hv]; omega⟩) h
  · rw [h, hv', hv]
    have h7 : ieq (f + (m + 1) + s) (wrapK .i64 (f + s + (m + 1))) = true := by rw [ieq_eq, wrap64]; simp; omega
    rw [h7]
    rfl

theorem spent_law {kd s k1 k2 k3 k4 k6 m : Int} (hs : In64 s) (h1 : In64 k1) (h2 : In64 k2) (h3 : In64 k3) (h4 : In64 k4) (hm : 0 ≤ m ∧ m ≤ 4294967295) : spentTree kd s k1 k2 k3 k4 k6 m = yes := by
  have h0 : In64 0 := by constructor <;> decide
  unfold spentTree spentFin ofBad fromV
  simp only [mapV_spec]
  by_cases c1 : kd = 1
  · subst c1; rfl
  by_cases c2 : kd = 2
  · subst c2; exact spent_case h2 hs hm false _ fun _ => rfl
  by_cases c3 : kd = 3
  · subst c3; exact spent_case (f := 0) h0 hs hm true _ fun h => by cases h
  by_cases c4 : kd = 4
  · subst c4; exact spent_case h1 hs hm false _ fun _ => rfl
  by_cases c5 : kd = 5
  · subst c5; exact spent_case h3 hs hm false _ fun _ => rfl
  by_cases c6 : kd = 6
  · subst c6; exact spent_case h4 hs hm false _ fun _ => rfl
  simp [c1, c2, c3, c4, c5, c6, ieq_eq, br_eq]

end Go.VI.Due
