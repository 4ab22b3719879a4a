/-
  SvcResults and SvcStops return true.
-/
import Derived.Test.YtjocfknaojbemaaSvcRes11
import Derived.Test.YtjocfknaojbemaaSvcRes12
namespace Go.VI.Svc
open Go.Proofs

variable {R : Type}
theorem ilt_self (n : Int) : ilt n n = false := by rw [ilt_eq]; exact decide_eq_false (by omega)

/-- Behind a Start that runs a process: a Tick ahead of its deadline, and an Exit, or a Tick at it. -/
def act11 (f : Fi) (exits : Bool) (code n : Int) (z : St) (K : Bool → Option R) : Option R :=
  (bnd (pF.k f z (wrapK .i64 (n + (-1)))) (fun a9 => (br (! ((Decidable.decide (Eq a9.1.sp false)) && ((Decidable.decide (Eq a9.1.ki false)) && ((Decidable.decide (Eq
    a9.1.ag false)) && ((ieq a9.1.r 0) && true))))) (br (ieq a9.2.d 9223372036854775807) (K true) (K false)) (br exits (bnd (pF.x f a9.2 code n) (fun a10 => (br (br (ieq
    a10.1.r 1) true (ieq a10.1.r 2)) (br (! a10.2.b) (bnd (pF.x f a10.2 code n) (fun a11 => (br ((Decidable.decide (Eq a11.1.sp false)) && ((Decidable.decide (Eq a11.1.ki
    false)) && ((Decidable.decide (Eq a11.1.ag false)) && ((ieq a11.1.r 0) && true)))) (K true) (K false)))) (K false)) (K false)))) (br (ieq a9.2.d 9223372036854775807)
    (K true) (bnd (pF.k f a9.2 a9.2.d) (fun a12 => (br (ieq a12.1.r 1) (br (ieq a12.2.s 3) (K true) (br (ieq a12.1.r 5) (br a12.1.ki (br (ieq a12.2.s 4) (K true) (K
    false)) (K false)) (K false))) (br (ieq a12.1.r 5) (br a12.1.ki (br (ieq a12.2.s 4) (K true) (K false)) (K false)) (K false))))))))))
/-- What follows a Start. -/
def tail11 (f : Fi) (exits : Bool) (code n : Int) (K : Bool → Option R) (o : Ou) (e : Bool) (z : St) : Option R :=
   (br (! (ieq (br e 0 4) 0)) (br (ieq (br e 0 4) 4) (br (ieq z.s 4) (K true) (K false)) (K false)) (br (! (ieq o.r 0)) (br (ieq o.r 1) (br (ieq z.s 3) (K true) (K false))
    (K false)) (br (! (! (ieq z.s 2))) (br (br (! z.b) true (! o.sp)) (K false) (bnd (pF.k f z (wrapK .i64 (n + (-1)))) (fun a9 => (br (! ((Decidable.decide (Eq a9.1.sp
    false)) && ((Decidable.decide (Eq a9.1.ki false)) && ((Decidable.decide (Eq a9.1.ag false)) && ((ieq a9.1.r 0) && true))))) (br (ieq a9.2.d 9223372036854775807) (K
    true) (K false)) (br exits (bnd (pF.x f a9.2 code n) (fun a10 => (br (br (ieq a10.1.r 1) true (ieq a10.1.r 2)) (br (! a10.2.b) (bnd (pF.x f a10.2 code n) (fun a11 =>
    (br ((Decidable.decide (Eq a11.1.sp false)) && ((Decidable.decide (Eq a11.1.ki false)) && ((Decidable.decide (Eq a11.1.ag false)) && ((ieq a11.1.r 0) && true)))) (K
    true) (K false)))) (K false)) (K false)))) (br (ieq a9.2.d 9223372036854775807) (K true) (bnd (pF.k f a9.2 a9.2.d) (fun a12 => (br (ieq a12.1.r 1) (br (ieq a12.2.s 3)
    (K true) (br (ieq a12.1.r 5) (br a12.1.ki (br (ieq a12.2.s 4) (K true) (K false)) (K false)) (K false))) (br (ieq a12.1.r 5) (br a12.1.ki (br (ieq a12.2.s 4) (K true)
    (K false)) (K false)) (K false))))))))))) (K false))))
def tail12 (f : Fi) (exits : Bool) (code n : Int) (K : Bool → Option R) (o : Ou) (e : Bool) (z : St) : Option R :=
   (br (! (ieq (br e 0 4) 0)) (K false) (br (! (ieq o.r 0)) (br (ieq o.r 1) (br (ieq z.s 1) (br (! z.b) (br (ieq z.d 9223372036854775807) (K true) (K false)) (K false)) (K
    false)) (K false)) (br (! (! (ieq z.s 4))) (br (! z.b) (K false) (br exits (bnd (pF.x f z code n) (fun a2 => (br exits (br ((Decidable.decide (Eq a2.1.sp false)) &&
    ((Decidable.decide (Eq a2.1.ki false)) && ((Decidable.decide (Eq a2.1.ag false)) && ((ieq a2.1.r 1) && true)))) (br (ieq a2.2.s 1) (br (! a2.2.b) (br (ieq a2.2.d
    9223372036854775807) (bnd (pF.k f a2.2 4611686018427387904) (fun a3 => (br ((Decidable.decide (Eq a3.1.sp false)) && ((Decidable.decide (Eq a3.1.ki false)) &&
    ((Decidable.decide (Eq a3.1.ag false)) && ((ieq a3.1.r 0) && true)))) (K true) (K false)))) (K false)) (K false)) (br (! exits) (br ((Decidable.decide (Eq a2.1.sp
    false)) && ((Decidable.decide (Eq a2.1.ki true)) && ((Decidable.decide (Eq a2.1.ag false)) && ((ieq a2.1.r 5) && true)))) (br (ieq a2.2.s 5) (br (! a2.2.b) (br (ieq
    a2.2.d 9223372036854775807) (bnd (pF.k f a2.2 4611686018427387904) (fun a4 => (br ((Decidable.decide (Eq a4.1.sp false)) && ((Decidable.decide (Eq a4.1.ki false)) &&
    ((Decidable.decide (Eq a4.1.ag false)) && ((ieq a4.1.r 0) && true)))) (K true) (K false)))) (K false)) (K false)) (K false)) (K false)) (K false))) (br (! exits) (br
    ((Decidable.decide (Eq a2.1.sp false)) && ((Decidable.decide (Eq a2.1.ki true)) && ((Decidable.decide (Eq a2.1.ag false)) && ((ieq a2.1.r 5) && true)))) (br (ieq
    a2.2.s 5) (br (! a2.2.b) (br (ieq a2.2.d 9223372036854775807) (bnd (pF.k f a2.2 4611686018427387904) (fun a5 => (br ((Decidable.decide (Eq a5.1.sp false)) &&
    ((Decidable.decide (Eq a5.1.ki false)) && ((Decidable.decide (Eq a5.1.ag false)) && ((ieq a5.1.r 0) && true)))) (K true) (K false)))) (K false)) (K false)) (K false))
    (K false)) (K false))) (br (! exits) (br ((Decidable.decide (Eq a2.1.sp false)) && ((Decidable.decide (Eq a2.1.ki true)) && ((Decidable.decide (Eq a2.1.ag false)) &&
    ((ieq a2.1.r 5) && true)))) (br (ieq a2.2.s 5) (br (! a2.2.b) (br (ieq a2.2.d 9223372036854775807) (bnd (pF.k f a2.2 4611686018427387904) (fun a6 => (br
    ((Decidable.decide (Eq a6.1.sp false)) && ((Decidable.decide (Eq a6.1.ki false)) && ((Decidable.decide (Eq a6.1.ag false)) && ((ieq a6.1.r 0) && true)))) (K true) (K
    false)))) (K false)) (K false)) (K false)) (K false)) (K false))))) (br (ieq z.d 9223372036854775807) (K true) (bnd (pF.k f z z.d) (fun a7 => (br exits (br
    ((Decidable.decide (Eq a7.1.sp false)) && ((Decidable.decide (Eq a7.1.ki false)) && ((Decidable.decide (Eq a7.1.ag false)) && ((ieq a7.1.r 1) && true)))) (br (ieq
    a7.2.s 1) (br (! a7.2.b) (br (ieq a7.2.d 9223372036854775807) (bnd (pF.k f a7.2 4611686018427387904) (fun a8 => (br ((Decidable.decide (Eq a8.1.sp false)) &&
    ((Decidable.decide (Eq a8.1.ki false)) && ((Decidable.decide (Eq a8.1.ag false)) && ((ieq a8.1.r 0) && true)))) (K true) (K false)))) (K false)) (K false)) (br (!
    exits) (br ((Decidable.decide (Eq a7.1.sp false)) && ((Decidable.decide (Eq a7.1.ki true)) && ((Decidable.decide (Eq a7.1.ag false)) && ((ieq a7.1.r 5) && true)))) (br
    (ieq a7.2.s 5) (br (! a7.2.b) (br (ieq a7.2.d 9223372036854775807) (bnd (pF.k f a7.2 4611686018427387904) (fun a9 => (br ((Decidable.decide (Eq a9.1.sp false)) &&
    ((Decidable.decide (Eq a9.1.ki false)) && ((Decidable.decide (Eq a9.1.ag false)) && ((ieq a9.1.r 0) && true)))) (K true) (K false)))) (K false)) (K false)) (K false))
    (K false)) (K false))) (br (! exits) (br ((Decidable.decide (Eq a7.1.sp false)) && ((Decidable.decide (Eq a7.1.ki true)) && ((Decidable.decide (Eq a7.1.ag false)) &&
    ((ieq a7.1.r 5) && true)))) (br (ieq a7.2.s 5) (br (! a7.2.b) (br (ieq a7.2.d 9223372036854775807) (bnd (pF.k f a7.2 4611686018427387904) (fun a10 => (br
    ((Decidable.decide (Eq a10.1.sp false)) && ((Decidable.decide (Eq a10.1.ki false)) && ((Decidable.decide (Eq a10.1.ag false)) && ((ieq a10.1.r 0) && true)))) (K true)
    (K false)))) (K false)) (K false)) (K false)) (K false)) (K false))) (br (! exits) (br ((Decidable.decide (Eq a7.1.sp false)) && ((Decidable.decide (Eq a7.1.ki true))
    && ((Decidable.decide (Eq a7.1.ag false)) && ((ieq a7.1.r 5) && true)))) (br (ieq a7.2.s 5) (br (! a7.2.b) (br (ieq a7.2.d 9223372036854775807) (bnd (pF.k f a7.2
    4611686018427387904) (fun a11 => (br ((Decidable.decide (Eq a11.1.sp false)) && ((Decidable.decide (Eq a11.1.ki false)) && ((Decidable.decide (Eq a11.1.ag false)) &&
    ((ieq a11.1.r 0) && true)))) (K true) (K false)))) (K false)) (K false)) (K false)) (K false)) (K false)))))))) (K false))))

theorem act11_true {f : Fi} {exits : Bool} {code n D : Int} (hn : 0 ≤ n ∧ n ≤ 257698037760) (hD : n ≤ D) (K : Bool → Option R) : act11 f exits code n ⟨2, true, D, false⟩ K = K true := by
  have hw : wrapK .i64 (n + (-1)) = n - 1 := by rw [wrap64]; omega
  have hc : br (ieq D 9223372036854775807) true (ilt (n - 1) D) = true := by
    rw [ilt_eq, decide_eq_true (show n - 1 < D by omega)]
    cases ieq D 9223372036854775807 <;> rfl
  have ht : tickCF f ⟨2, true, D, false⟩ (n - 1) = some (⟨false, false, false, 0⟩, ⟨2, true, D, false⟩) := by
    simp only [tickCF, tickO, tickS, tickT, hc]
    rfl
  have hx : exitCF f ⟨2, true, D, false⟩ code n = some (exitO laterV f ⟨2, true, D, false⟩ code n, exitS laterV f ⟨2, true, D, false⟩ code n) := rfl
  have ht : pF.k f ⟨2, true, D, false⟩ (n - 1) = some (⟨false, false, false, 0⟩, ⟨2, true, D, false⟩) := ht
  have e : ∀ x y : Option R, br (!((decide (false = false)) && ((decide (false = false)) && ((decide (false = false)) && ((ieq 0 0) && true))))) x y = y := fun x y => rfl
  unfold act11
  rw [hw, ht, bnd_some]
  erw [e]
  cases exits with
  | true =>
    erw [br_t]
    show (bnd (exitCF f ⟨2, true, D, false⟩ code n) _) = _
    cases h4 : ieq f.ty 2 <;> cases h5 : againB f.rs code <;> cases h6 : f.rm <;> cases h7 : ieq code 0 <;>
      (rw [hx, bnd_some]; simp only [exitO, exitS, exitT, endsT, h4, h5, h6, h7]; rfl)
  | false =>
    cases hD2 : ieq D 9223372036854775807 with
    | true =>
      erw [br_f]; rfl
    | false =>
      have ht2 : tickCF f ⟨2, true, D, false⟩ D = some (tickO laterV f ⟨2, true, D, false⟩ D, tickS laterV f ⟨2, true, D, false⟩ D) := by
        simp only [tickCF, hD2, ilt_self]
        rfl
      have ht2 : pF.k f ⟨2, true, D, false⟩ D = some (tickO laterV f ⟨2, true, D, false⟩ D, tickS laterV f ⟨2, true, D, false⟩ D) := ht2
      erw [br_f, br_f, ht2, bnd_some]
      cases h3 : ieq f.ty 3 <;> (simp only [tickO, tickS, tickT, hD2, ilt_self, h3]; rfl)

theorem later_ge {n s : Int} (hn : 0 ≤ n ∧ n ≤ 257698037760) (hs : In64 s) : n ≤ laterV n s := by
  have hn' : In64 n := ⟨by omega, by omega⟩
  have hs' : In64 (br (ilt 0 s) s 0) := by
    rw [br_eq, ilt_eq]
    split
    · exact hs
    · constructor <;> decide
  obtain ⟨e1, e2⟩ := add_spec hn' hs'
  unfold laterV laterB
  rw [e1, e2]
  simp only [br_eq, ilt_eq, ieq_eq]
  unfold In64
  obtain ⟨s1, s2⟩ := hs
  by_cases h1 : 0 < s <;> by_cases h2 : n + s ≤ 9223372036854775807 <;> by_cases h4 : s = 9223372036854775807 <;> simp [h1, h4] <;> (repeat' split) <;> omega

theorem tail11_true {f : Fi} {exits : Bool} {code n : Int} {y : St} (hf : InF f) (hn : 0 ≤ n ∧ n ≤ 257698037760) (hy : Inv y) (h2 : y.s ≠ 2) (K : Bool → Option R) :
    bnd (startCF f y n) (fun a => tail11 f exits code n K a.1 a.2.1 a.2.2) = K true := by
  show tail11 f exits code n K (startO laterV f y n) (startE laterV f y n) (startS laterV f y n) = K true
  refine Eq.trans (startT_eq laterV f y n (fun o e z => tail11 f exits code n K o e z)).symm ?_
  have a1 := act11_true (f := f) (exits := exits) (code := code) hn (later_ge hn hf.2.1) K
  have a2 := act11_true (f := f) (exits := exits) (code := code) (D := n) hn (Int.le_refl _) K
  obtain ⟨⟨h1, h5⟩, -⟩ := hy
  obtain ⟨s, b, d, lt⟩ := y
  dsimp only at h1 h2 h5
  have : s = 1 ∨ s = 3 ∨ s = 4 ∨ s = 5 := by omega
  have key : ∀ {c4 : Bool} {s : Int}, tail11 f exits code n K ⟨true, false, false, 0⟩ true ⟨2, true, laterV n f.up, false⟩ = K true → tail11 f exits code n K ⟨true, false, false, 0⟩ true ⟨2, true, n, false⟩ = K true →
      br c4 (tail11 f exits code n K ⟨false, false, false, 1⟩ true ⟨3, b, 9223372036854775807, false⟩) (br (ieq f.ty 1) (tail11 f exits code n K ⟨true, false, false, 1⟩ true ⟨3, true, 9223372036854775807, false⟩)
        (br (ieq f.ty 2) (tail11 f exits code n K ⟨true, false, false, 0⟩ true ⟨2, true, laterV n f.up, false⟩) (tail11 f exits code n K ⟨true, false, false, 0⟩ true ⟨2, true, n, false⟩))) = K true := fun {c4 s} b1 b2 => by
    cases c4
    · cases ieq f.ty 1
      · cases ieq f.ty 2
        · exact b2
        · exact b1
      · rfl
    · rfl
  rcases this with rfl | rfl | rfl | rfl
  · exact key (s := 1) a1 a2
  · rfl
  · rfl
  · exact key (s := 5) a1 a2

theorem results_true {f : Fc} {l : List CallT.den} {exits : Bool} {code : Int} (hf : chkF f = true) (hl : chkL l = true) (K : Bool → Option R) : f11 L11e isF pF wF f.fk f.ty f.rm f.rs f.ag f.up f.dn f.ex l exits code K = K true := by
  obtain ⟨h1, h2, h3, h4⟩ := chkF_in hf
  unfold f11
  cases hn : Nat.ble 61 l.length with
  | true => rfl
  | false =>
    have hlen : l.length ≤ 60 := by
      rcases Nat.lt_or_ge 60 l.length with h | h
      · rw [Nat.ble_eq_true_of_le h] at hn; cases hn
      · exact h
    have hcond : ((ieq f.ty f.ty) && ((eqw f.rm f.rm) && ((ieq f.rs f.rs) && ((ieq f.ag f.ag) && ((ieq f.up f.up) && ((ieq f.dn f.dn) && ((sameL' (Ty.same Ty.str) f.ex f.ex) && true))))))) = true := by
      simp only [ieq_self, eqw_self, Bool.true_and, Bool.and_true]
      exact sameS f.ex
    rw [hcond, wrap_small h2, wrap_small h3, wrap_small h4]
    obtain ⟨n, x, hx, hnn, e⟩ := L11_some (f := f) (exits := exits) (code := code) h1 hl hlen (l.length + 1) _ 0 0 new_inv (by omega) (by omega) (by omega) (by omega)
    have e2 : L11e f f l exits code ⟨1, false, 9223372036854775807, false⟩ ⟨1, false, 9223372036854775807, false⟩ 0 0 = some (false, n, (l.length : Int), x, x) := by
      unfold L11e
      rw [if_pos rfl, e]
    rw [show (⟨f.fk, f.ty, f.rm, f.rs, f.ag, f.up, f.dn, f.ex⟩ : Fc) = f from rfl, e2, Bool.not_false, br_t, br_t, bnd_some]
    generalize Bool.not (br (br (br (br (br _ _ _) _ _) _ _) _ _) _ _) = c
    cases c with
    | true => rfl
    | false =>
      rw [br_f]
      have hn64 : In64 n := ⟨by omega, by omega⟩
      cases hx2 : ieq x.s 2 with
      | false =>
        have hne : x.s ≠ 2 := by rw [ieq_eq] at hx2; simpa using hx2
        exact Eq.trans (by kernel_rfl) (tail11_true (f := f.fi) (exits := exits) (code := code) h1 hnn hx hne K)
      | true =>
        have hs2 : x.s = 2 := by rw [ieq_eq] at hx2; simpa using hx2
        have hb : x.b = true := hx.2.2.2.2 (.inl hs2)
        obtain ⟨s, b, d, lt⟩ := x
        dsimp only at hs2 hb
        subst hs2
        subst hb
        exact Eq.trans (by kernel_rfl) (tail11_true (f := f.fi) (exits := exits) (code := code) (y := ⟨1, false, 9223372036854775807, false⟩) h1 hnn new_inv (by decide) K)

theorem tail12_true {f : Fi} {exits : Bool} {code n D : Int} (K : Bool → Option R) : tail12 f exits code n K ⟨false, false, false, 0⟩ true ⟨4, true, D, false⟩ = K true ∧ tail12 f exits code n K ⟨false, true, false, 0⟩ true ⟨4, true, D, false⟩ = K true := by
  have hx : exitCF f ⟨4, true, D, false⟩ code n = some (⟨false, false, false, 1⟩, ⟨1, false, 9223372036854775807, false⟩) := rfl
  have key : ∀ ki : Bool, tail12 f exits code n K ⟨false, ki, false, 0⟩ true ⟨4, true, D, false⟩ = K true := fun ki => by
    cases exits with
    | true => rfl
    | false =>
      cases hD : ieq D 9223372036854775807 with
      | true =>
        show br (ieq D 9223372036854775807) _ _ = _
        rw [hD]; rfl
      | false =>
        have ht : tickCF f ⟨4, true, D, false⟩ D = some (⟨false, true, false, 5⟩, ⟨5, false, 9223372036854775807, false⟩) := by
          simp only [tickCF, tickO, tickS, tickT, hD, ilt_self]
          rfl
        show br (ieq D 9223372036854775807) _ (bnd (tickCF f ⟨4, true, D, false⟩ D) _) = _
        rw [hD, ht]
        rfl
  exact ⟨key false, key true⟩

theorem stops_true {f : Fc} {l : List CallT.den} {exits : Bool} {code : Int} (hf : chkF f = true) (hl : chkL l = true) (K : Bool → Option R) : f12 L12e isF pF wF f.fk f.ty f.rm f.rs f.ag f.up f.dn f.ex l exits code K = K true := by
  obtain ⟨h1, h2, h3, h4⟩ := chkF_in hf
  unfold f12
  cases hn : Nat.ble 61 l.length with
  | true => rfl
  | false =>
    have hlen : l.length ≤ 60 := by
      rcases Nat.lt_or_ge 60 l.length with h | h
      · rw [Nat.ble_eq_true_of_le h] at hn; cases hn
      · exact h
    have hcond : ((ieq f.ty f.ty) && ((eqw f.rm f.rm) && ((ieq f.rs f.rs) && ((ieq f.ag f.ag) && ((ieq f.up f.up) && ((ieq f.dn f.dn) && ((sameL' (Ty.same Ty.str) f.ex f.ex) && true))))))) = true := by
      simp only [ieq_self, eqw_self, Bool.true_and, Bool.and_true]
      exact sameS f.ex
    rw [hcond, wrap_small h2, wrap_small h3, wrap_small h4]
    obtain ⟨n, x, hx, hnn, e⟩ := L12_some (f := f) (exits := exits) (code := code) h1 hl hlen (l.length + 1) _ 0 0 new_inv (by omega) (by omega) (by omega) (by omega)
    have e2 : L12e f f l exits code ⟨1, false, 9223372036854775807, false⟩ ⟨1, false, 9223372036854775807, false⟩ 0 0 = some (false, n, (l.length : Int), x, x) := by
      unfold L12e
      rw [if_pos rfl, e]
    rw [show (⟨f.fk, f.ty, f.rm, f.rs, f.ag, f.up, f.dn, f.ex⟩ : Fc) = f from rfl, e2, Bool.not_false, br_t, br_t, bnd_some]
    generalize Bool.not (br (br (br (br (br _ _ _) _ _) _ _) _ _) _ _) = c
    cases c with
    | true => rfl
    | false =>
      rw [br_f]
      have main : stopT laterV f.fi x n (fun o e z => tail12 f.fi exits code n K o e z) = K true := by
        simp only [stopT]
        cases hx4 : ieq x.s 4 with
        | true =>
          have hs4 : x.s = 4 := by rw [ieq_eq] at hx4; simpa using hx4
          have hb : x.b = true := hx.2.2.2.2 (.inr hs4)
          rw [hs4, hb]
          exact (tail12_true K).1
        | false =>
          cases hb : x.b with
          | false => rfl
          | true => exact (tail12_true K).2
      rw [stopT_eq] at main
      exact main

end Go.VI.Svc
