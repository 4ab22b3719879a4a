/-
  SvcPlays returns true: its loop ends behind all calls.
-/
import Derived.Test.YtjocfknaojbemaaSvcInv
namespace Go.VI.Svc
open Go.Proofs

theorem br_t {α : Type} (x y : α) : br true x y = x := rfl
theorem br_f {α : Type} (x y : α) : br false x y = y := rfl
theorem eqw_self (b : Bool) : eqw b b = true := by cases b <;> rfl

theorem round9 {R : Type} {fk ty : Int} {rm : Bool} {rs ag up dn : Int} {ex : List Str} {l : List CallT.den} {x : St} {now i : Int} (KN : Int → Int → St → St → Option R) (KX KR : Bool → Int → Int → St → St → Option R)
    (hf : InF ⟨fk, ty, rm, rs, ag, up, dn, Nat.beq ex.length 0⟩) (hx : Inv x) (h0 : 0 ≤ i) (hi : i < l.length) (hk : 0 ≤ (rd l i.toNat).1) :
    ∃ now' x', Inv x' ∧ t9 isF pF wF fk ty rm rs ag up dn ex fk ty rm rs ag up dn l x x now i KN KX KR = KN now' (wrapK .i64 (i + 1)) x' x' := by
  generalize hfi : (⟨fk, ty, rm, rs, ag, up, dn, Nat.beq ex.length 0⟩ : Fi) = f at hf
  have hn := wrap_in (now + wrapK .i64 (rd l i.toNat).2.2)
  generalize hnow : wrapK .i64 (now + wrapK .i64 (rd l i.toNat).2.2) = n at hn
  generalize hcode : (rd l i.toNat).2.1 = code
  have e1 : ilt i (l.length : Int) = true := by rw [ilt_eq]; exact decide_eq_true hi
  have e2 : inb i l.length = true := by simp only [inb, ile_eq, ilt_eq, decide_eq_true h0, decide_eq_true hi, Bool.and_self]
  obtain ⟨⟨s1, s2⟩, ⟨t1, t2⟩, ⟨x1, x2⟩, ⟨k1, k2⟩⟩ := all_is (code := code) hf hn hx
  obtain ⟨sr, si⟩ := start_keeps hf hn hx
  obtain ⟨tr, ti, -⟩ := stop_keeps hf hn hx
  obtain ⟨xr, xi⟩ := exit_keeps (code := code) hf hn hx
  obtain ⟨kr, ki⟩ := tick_keeps hf hn hx
  obtain ⟨-, -, ⟨y1, -⟩, -⟩ := all_is (code := code) hf hn si
  obtain ⟨yr, yi⟩ := exit_keeps (code := code) hf hn si
  obtain ⟨-, ⟨z1, -⟩, -, -⟩ := all_is (code := code) hf hn yi
  have ss : ∀ {y : St}, Inv y → wrapK .i64 y.s = y.s := fun h => small_in ⟨by have := h.1.1; omega, h.1.2⟩
  have hk5 : Int.tmod (rd l i.toNat).1 5 = 0 ∨ Int.tmod (rd l i.toNat).1 5 = 1 ∨ Int.tmod (rd l i.toNat).1 5 = 2 ∨ Int.tmod (rd l i.toNat).1 5 = 3 ∨ Int.tmod (rd l i.toNat).1 5 = 4 := by
    rw [Int.tmod_eq_emod_of_nonneg hk]; omega
  rcases hk5 with h | h | h | h | h
  · refine ⟨n, _, si, ?_⟩
    simp only [t9, pF, wF, hfi, hnow, hcode, Int.ofNat_eq_natCast, e1, e2, h, s1, s2, bnd_some, br_t, br_f, isF_self sr, ss si, ieq_self, eqw_self, decide_true, show ieq 0 4 = false from rfl, show ieq 0 0 = true from rfl]
    cases startE laterV f x n <;> rfl
  · refine ⟨n, _, ti, ?_⟩
    simp only [t9, pF, wF, hfi, hnow, hcode, Int.ofNat_eq_natCast, e1, e2, h, t1, t2, bnd_some, br_t, br_f, isF_self tr, ss ti, ieq_self, eqw_self, decide_true, show ieq 1 4 = false from rfl, show ieq 1 0 = false from rfl, show ieq 0 0 = true from rfl, Bool.and_self, Bool.not_true]
  · refine ⟨n, _, xi, ?_⟩
    simp only [t9, pF, wF, hfi, hnow, hcode, Int.ofNat_eq_natCast, e1, e2, h, x1, x2, bnd_some, br_t, br_f, isF_self xr, ss xi, ieq_self, eqw_self, decide_true, show ieq 2 4 = false from rfl, show ieq 2 0 = false from rfl, show ieq 2 1 = false from rfl, Bool.and_self, Bool.not_true]
  · refine ⟨n, _, ki, ?_⟩
    simp only [t9, pF, wF, hfi, hnow, hcode, Int.ofNat_eq_natCast, e1, e2, h, k1, k2, bnd_some, br_t, br_f, isF_self kr, ss ki, ieq_self, eqw_self, decide_true, show ieq 3 4 = false from rfl, show ieq 3 0 = false from rfl, show ieq 3 1 = false from rfl, show ieq 3 2 = false from rfl, Bool.and_self, Bool.not_true]
  · refine ⟨n, _, hx, ?_⟩
    simp only [t9, pF, wF, hfi, hnow, hcode, Int.ofNat_eq_natCast, e1, e2, h, s1, y1, z1, bnd_some, br_t, br_f, ss hx, ieq_self, eqw_self, decide_true, show ieq 4 0 = false from rfl, show ieq 4 1 = false from rfl, show ieq 4 2 = false from rfl, show ieq 4 3 = false from rfl, Bool.and_self, Bool.not_true]

end Go.VI.Svc
