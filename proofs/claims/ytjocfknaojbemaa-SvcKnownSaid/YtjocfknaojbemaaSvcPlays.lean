/-
  SvcPlays returns true, whatever file (of which the service alone is told), and whatever calls.
-/
import Derived.Test.YtjocfknaojbemaaSvcLoop9
namespace Go.VI.Svc
open Go.Proofs

def inB (lo hi n : Int) : Bool := decide (lo ≤ n ∧ n ≤ hi)
/-- Numbers as their types have them. -/
def chkF (f : Fc) : Bool := inB 0 255 f.fk && inB 0 255 f.ty && inB 0 255 f.rs && inB (-9223372036854775808) 9223372036854775807 f.ag && inB (-9223372036854775808) 9223372036854775807 f.up && inB (-9223372036854775808) 9223372036854775807 f.dn
def chkL (l : List CallT.den) : Bool := l.all fun c => inB 0 255 c.1 && inB 0 4294967295 c.2.2
theorem chkL_get {l : List CallT.den} (h : chkL l = true) {i : Int} (h0 : 0 ≤ i) (hi : i < l.length) : 0 ≤ (rd l i.toNat).1 := by
  have hlt : i.toNat < l.length := by omega
  have e : rd l i.toNat = l[i.toNat] := by
    unfold rd
    rw [List.getD_eq_getElem?_getD, List.getElem?_eq_getElem hlt]; rfl
  have := List.all_eq_true.1 h l[i.toNat] (List.getElem_mem hlt)
  simp only [inB, Bool.and_eq_true, decide_eq_true_eq] at this
  rw [e]
  exact this.1.1
theorem chkL_lat {l : List CallT.den} (h : chkL l = true) {i : Int} (h0 : 0 ≤ i) (hi : i < l.length) : 0 ≤ (rd l i.toNat).2.2 ∧ (rd l i.toNat).2.2 ≤ 4294967295 := by
  have hlt : i.toNat < l.length := by omega
  have e : rd l i.toNat = l[i.toNat] := by
    unfold rd
    rw [List.getD_eq_getElem?_getD, List.getElem?_eq_getElem hlt]; rfl
  have := List.all_eq_true.1 h l[i.toNat] (List.getElem_mem hlt)
  simp only [inB, Bool.and_eq_true, decide_eq_true_eq] at this
  rw [e]
  exact this.2
theorem chkF_in {f : Fc} (h : chkF f = true) : InF f.fi ∧ (0 ≤ f.fk ∧ f.fk ≤ 255) ∧ (0 ≤ f.ty ∧ f.ty ≤ 255) ∧ (0 ≤ f.rs ∧ f.rs ≤ 255) := by
  simp only [chkF, inB, Bool.and_eq_true, decide_eq_true_eq] at h
  obtain ⟨⟨⟨⟨⟨h1, h2⟩, h3⟩, h4⟩, h5⟩, h6⟩ := h
  exact ⟨⟨h4, h5, h6⟩, h1, h2, h3⟩
theorem wrap_small {n : Int} (h : 0 ≤ n ∧ n ≤ 255) : wrapK .i64 n = n := by
  rw [wrap64]; omega

theorem L9_some {f : Fc} {l : List CallT.den} (hf : InF f.fi) (hl : chkL l = true) (hn : l.length ≤ 100) : ∀ (v : Nat) (x : St) (now i : Int), Inv x → 0 ≤ i → i ≤ l.length → (l.length : Int) - i < v →
    ∃ n x', L9 isF pF wF f.fk f.ty f.rm f.rs f.ag f.up f.dn f.ex f.fk f.ty f.rm f.rs f.ag f.up f.dn l v x x now i = some (true, false, n, (l.length : Int), x', x')
  | 0, x, now, i, hx, h0, hi, hv => by omega
  | v + 1, x, now, i, hx, h0, hi, hv => by
    rw [L9]
    by_cases h : i < l.length
    · obtain ⟨n, x', hx', e⟩ := round9 (fun n i x y => L9 isF pF wF f.fk f.ty f.rm f.rs f.ag f.up f.dn f.ex f.fk f.ty f.rm f.rs f.ag f.up f.dn l v x y n i) (fun r n i x y => some (true, r, n, i, x, y)) (fun r n i x y => some (false, r, n, i, x, y)) (now := now) (rm := f.rm) (fk := f.fk) (ty := f.ty) (rs := f.rs) hf hx h0 h (chkL_get hl h0 h)
      rw [e]
      have hw : wrapK .i64 (i + 1) = i + 1 := by rw [wrap64]; omega
      rw [hw]
      exact L9_some hf hl hn v x' n (i + 1) hx' (by omega) (by omega) (by omega)
    · have hi' : i = l.length := by omega
      have e1 : ilt i (l.length : Int) = false := by rw [ilt_eq]; exact decide_eq_false h
      refine ⟨now, x, ?_⟩
      unfold t9
      rw [Int.ofNat_eq_natCast, e1, ← hi']
      rfl

theorem new_inv : Inv ⟨1, false, 9223372036854775807, false⟩ := Inv.of (by decide) (fun h => by cases h) inf_in (fun h => absurd h (by decide)) (fun h => absurd h (by decide))

theorem sameS (l : List Str) : sameL' (Ty.same .str) l l = true := by
  induction l with
  | nil => rfl
  | cons a r ih =>
    simp only [sameL', ih, Bool.and_true]
    exact (beq_self_eq_true a)

/-- SvcPlays is true. -/
theorem plays_true {R : Type} {f : Fc} {l : List CallT.den} (hf : chkF f = true) (hl : chkL l = true) (K : Bool → Option R) : f9 L9e isF pF wF f.fk f.ty f.rm f.rs f.ag f.up f.dn f.ex l K = K true := by
  obtain ⟨h1, h2, h3, h4⟩ := chkF_in hf
  unfold f9
  cases hn : Nat.ble 101 l.length with
  | true => rfl
  | false =>
    have hlen : l.length ≤ 100 := by
      rcases Nat.lt_or_ge 100 l.length with h | h
      · rw [Nat.ble_eq_true_of_le h] at hn; cases hn
      · exact h
    have hs := sameS f.ex
    simp only [Bool.not_false, br_t, ieq_self, eqw_self, Bool.true_and, Bool.and_true, wrap_small h2, wrap_small h3, wrap_small h4]
    erw [hs]
    obtain ⟨n, x', e⟩ := L9_some (f := f) h1 hl hlen (l.length + 1) _ 0 0 new_inv (by omega) (by omega) (by omega)
    have e2 : L9e f f l ⟨1, false, 9223372036854775807, false⟩ ⟨1, false, 9223372036854775807, false⟩ 0 0 = some (false, n, (l.length : Int), x', x') := by
      unfold L9e
      rw [if_pos rfl, e]
    rw [e2]
    simp only [br_t]
    generalize Bool.not _ = c
    cases c <;> rfl

end Go.VI.Svc
