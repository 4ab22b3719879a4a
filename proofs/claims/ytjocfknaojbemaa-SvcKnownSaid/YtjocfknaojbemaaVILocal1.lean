/-
  Calls that are given one block, or two.
-/
import Derived.Test.YtjocfknaojbemaaVILocal
namespace Go.VI

theorem ptrs_pure {l : List A} (h : pureL l = true) : ptrs l = [] := by
  induction l with
  | nil => rfl
  | cons a r ih =>
    simp only [pureL, Bool.and_eq_true] at h
    have ih := ih h.2
    cases a <;> first | exact ih | exact absurd h.1 (by simp [pureA])
theorem renA_pure {ns : List Nat} {a : A} (h : pureA a = true) : renA ns a = some a := by
  unfold renA
  split
  · cases h
  · rw [if_pos h]
theorem renL_pure {ns : List Nat} : ∀ {l : List A}, pureL l = true → renL ns l = some l
  | [], _ => rfl
  | a :: r, h => by
    simp only [pureL, Bool.and_eq_true] at h
    simp only [renL, renA_pure h.1, renL_pure h.2]

/-- What follows a call over one block. -/
def after1 {R : Type} (n : Nat) (H : Heap) (k : A → Heap → Option R) (v : A) (L : Heap) : Option R :=
  if pureA v then (match L.get 0 with
    | some (.cells true cs) => if pureL cs then k v (H.set n (.cells true cs)) else none
    | _ => none) else none

theorem local1 {E : Env} {T : Tab} {u d : Nat} {g : FuncId} {R : Type} {n o : Nat} {rest cs : List A} {H : Heap} {k : A → Heap → Option R} (hg : H.get n = some (.cells true cs)) (hp : pureL cs = true) (hr : pureL rest = true) :
    localTE E T u d g R (.ptr n o :: rest) H k = viF E T u d g (.ptr 0 o :: rest) ⟨1, [(0, .cells true cs)]⟩ (after1 n H k) := by
  have e1 : ptrs (.ptr n o :: rest) = [n] := by
    simp only [ptrs, ptrs_pure hr, idxN]
  have e2 : renL [n] (.ptr n o :: rest) = some (.ptr 0 o :: rest) := by
    simp only [renL, renA, idxN, Nat.beq_refl, cond_true, renL_pure hr]
  have e3 : takeH 0 [n] H = some [(0, .cells true cs)] := by
    simp only [takeH, hg, hp, if_true]
  unfold localTE
  rw [e1]
  simp only [e2, e3]
  congr 1
  funext v L
  unfold after1
  by_cases hv : pureA v = true
  · rw [if_pos hv, if_pos hv]
    simp only [backH]
    split
    · rename_i h1
      split at h1
      · rename_i cs' hL
        split at h1
        · rename_i hc
          cases h1
          simp only [hL, hc, if_true]
        · cases h1
      · cases h1
    · rename_i h1
      split at h1
      · rename_i cs' hL
        split at h1
        · cases h1
        · rename_i hc
          simp only [hL]
          rw [if_neg hc]
      · rename_i hL
        split
        · rename_i cs' hL'
          exact absurd hL' (hL cs')
        · rfl
  · rw [if_neg hv, if_neg hv]

end Go.VI
