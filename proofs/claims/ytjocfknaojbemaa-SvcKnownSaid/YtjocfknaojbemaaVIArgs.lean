/-
  Arguments that are read as data, as typed data: numbers, texts, tests, structs of such.
-/
import Derived.Test.YtjocfknaojbemaaVIPure
import Derived.ChangeArms
import Derived.WideShapes
namespace Go.VI

variable {P : Program}

def tyFs (P : Program) (rec : TypeId → Option Ty) : Nat → List Field → Option (List Ty)
  | _, [] => some []
  | o, f :: r => if Nat.beq f.offset o then (match rec f.type with
    | some t => if Nat.beq t.size (P.cellsOf f.type) then (match tyFs P rec (o + t.size) r with
      | some l => some (t :: l)
      | none => none) else none
    | none => none) else none
/-- The plain type of a type: of numbers, texts, tests and structs of such. -/
def tyS (P : Program) : Nat → TypeId → Option Ty
  | 0, _ => none
  | d + 1, t => match P.underlying t with
    | some .bool => some .bool
    | some (.int k) => some (.int k)
    | some .string => some .str
    | some (.struct fs) => match tyFs P (tyS P d) 0 fs.toList with
      | some l => if Nat.beq (pairs l).size (P.cellsOf t) then some (pairs l) else none
      | none => none
    | _ => none

/-- Numbers lie within their kinds. -/
def wfD : (t : Ty) → t.den → Prop
  | .unit, _ => True
  | .bool, _ => True
  | .int k, n => k.min ≤ n ∧ (n : Int) ≤ k.max
  | .str, s => (s : List UInt8).length ≤ maxLen
  | .sl e, xs => ∀ x ∈ (xs : List e.den), wfD e x
  | .pair a b, x => wfD a x.1 ∧ wfD b x.2
  | .ref t, x => match x with
    | none => True
    | some y => wfD t y
  | .fn, _ => True
  | .nsl e, x => match x with
    | none => True
    | some xs => ∀ x ∈ (xs : List e.den), wfD e x

def consD : (t : Ty) → (l : List Ty) → t.den → (pairs l).den → (pairs (t :: l)).den
  | _, [], x, _ => x
  | _, _ :: _, x, y => (x, y)
theorem enc_consD (t : Ty) (l : List Ty) (x : t.den) (y : (pairs l).den) : enc (pairs (t :: l)) (consD t l x y) = enc t x ++ enc (pairs l) y := by
  cases l with
  | nil => cases y; simp [pairs, consD, enc]
  | cons a r => rfl
theorem wf_consD (t : Ty) (l : List Ty) (x : t.den) (y : (pairs l).den) (hx : wfD t x) (hy : wfD (pairs l) y) : wfD (pairs (t :: l)) (consD t l x y) := by
  cases l with
  | nil => exact hx
  | cons a r => exact ⟨hx, hy⟩
theorem size_pairs (t : Ty) (l : List Ty) : (pairs (t :: l)).size = t.size + (pairs l).size := by
  cases l <;> simp [pairs, Ty.size]

variable {H : Type} {enc' : TypeId × Value → H} {w : World} {base : Nat} {spare : Nat → Bool} {held : Bool} {C : Cx}

theorem wf_int {k : IntKind} {n : Int} (h : (Lit.int k n).wf = true) : k.min ≤ n ∧ (n : Int) ≤ k.max := by
  simpa [Lit.wf] using h

theorem open_fs {n : Nat} {rec : TypeId → Option Ty} (ih : ∀ {t τ}, rec t = some τ → ∀ {cs x}, DataW.trod enc' P w base spare held n t cs = some x → ∃ y : τ.den, VRs C (enc τ y) cs ∧ wfD τ y) (cs : List Value) :
    ∀ (fs : List Field) (o : Nat) (l : List Ty), tyFs P rec o fs = some l → (∀ f ∈ fs, ∃ x, DataW.trod enc' P w base spare held n f.type ((cs.drop f.offset).take (P.cellsOf f.type)) = some x) →
      ∃ y : (pairs l).den, VRs C (enc (pairs l) y) ((cs.drop o).take (pairs l).size) ∧ wfD (pairs l) y
  | [], o, l, h, _ => by
    cases h
    exact ⟨(), by simpa [pairs, Ty.size, enc] using VRs.nil C, trivial⟩
  | f :: r, o, l, h, hx => by
    simp only [tyFs] at h
    split at h
    case isFalse => cases h
    rename_i ho
    split at h
    case h_2 => cases h
    rename_i t ht
    split at h
    case isFalse => cases h
    rename_i hsz
    split at h
    case h_2 => cases h
    rename_i l' hl
    cases h
    have ho := Nat.eq_of_beq_eq_true ho
    have hsz := Nat.eq_of_beq_eq_true hsz
    obtain ⟨x, hx0⟩ := hx f (by simp)
    obtain ⟨y, hy, wy⟩ := ih ht hx0
    obtain ⟨z, hz, wz⟩ := open_fs ih cs r _ _ hl fun g hg => hx g (by simp [hg])
    refine ⟨consD t l' y z, ?_, wf_consD _ _ _ _ wy wz⟩
    rw [enc_consD, size_pairs, List.take_add, List.drop_drop]
    rw [ho, ← hsz] at hy
    exact hy.append hz

theorem open_plain : ∀ (d : Nat) {t : TypeId} {τ : Ty}, tyS P d t = some τ → ∀ {fuel : Nat} {cs : List Value} {x : DataW H × List MemPlace}, DataW.trod enc' P w base spare held fuel t cs = some x →
    ∃ y : τ.den, VRs C (enc τ y) cs ∧ wfD τ y
  | 0, _, _, h, _, _, _, _ => by simp [tyS] at h
  | d + 1, t, τ, h, fuel, cs, x, hx => by
    unfold tyS at h
    split at h
    · rename_i hu
      cases h
      obtain ⟨b, rfl, -⟩ := DataW.trod_bool hu hx
      exact ⟨b, VRs.cons (.bool b) rfl (VRs.nil C), trivial⟩
    · rename_i k hu
      cases h
      obtain ⟨n, rfl, -, hw⟩ := DataW.trod_int hu hx
      exact ⟨n, VRs.cons (.int k n) rfl (VRs.nil C), wf_int hw⟩
    · rename_i hu
      cases h
      obtain ⟨s, rfl, -, hw⟩ := DataW.trod_string hu hx
      exact ⟨s.data.toList, VRs.cons (.str _ s rfl) rfl (VRs.nil C), by simpa [wfD] using hw⟩
    · rename_i fs hu
      split at h
      case h_2 => cases h
      rename_i l hl
      split at h
      case isFalse => cases h
      rename_i hsz
      cases h
      have hsz := Nat.eq_of_beq_eq_true hsz
      obtain ⟨xs, n, rfl, -, hlen, hn, hf⟩ := DataW.trod_struct hu hx
      obtain ⟨y, hy, wy⟩ := open_fs (n := n) (C := C) (fun h _ _ hx => open_plain d h hx) cs fs.toList 0 l hl (fun f hf' => by
        obtain ⟨i, hi, rfl⟩ := List.mem_iff_getElem.1 hf'
        have := hf i fs[i] (by simp at hi; simp [hi])
        simp only [Array.getElem_toList]
        rw [this]
        exact ⟨xs[i]'(by simp at hi; omega), by simp at hi; simp [show i < xs.length by omega]⟩)
      rw [hsz, List.drop_zero, ← hlen, List.take_length] at hy
      exact ⟨y, hy, wy⟩
    · cases h

/-- An argument of a struct's type. -/
theorem open_agg {d : Nat} {t : TypeId} {τ : Ty} {fs : Array Field} (h : tyS P d t = some τ) (hu : P.underlying t = some (.struct fs)) {v : Value} {x : DataW H} {ps : List MemPlace} {w' : World} {r : Reach} {b : Nat}
    (hv : Value.okWide P w' r b t v) (hx : DataW.Trod enc' P w base spare held t v x ps) : ∃ y : τ.den, VR C (.agg (enc τ y)) v ∧ wfD τ y := by
  obtain ⟨fuel, hx⟩ := hx
  obtain ⟨y, hy, wy⟩ := open_plain (C := C) d h hx
  obtain ⟨cs, rfl, -⟩ := WideShapes.okWide_struct hu hv
  refine ⟨y, .agg _ cs (by simpa [Value.cells] using hy.1) (fun i hi => ?_) (fun i hi => ?_), wy⟩
  · simpa [Value.cells] using hy.2.1 i hi
  · simpa [Value.cells] using hy.2.2 i hi

/-- An argument of one cell. -/
theorem open_one {d : Nat} {t : TypeId} {τ : Ty} (h : tyS P d t = some τ) {v : Value} {x : DataW H} {ps : List MemPlace} (hc : v.cells = #[v])
    (hx : DataW.Trod enc' P w base spare held t v x ps) : ∃ y : τ.den, VRs C (enc τ y) [v] ∧ wfD τ y := by
  obtain ⟨fuel, hx⟩ := hx
  rw [hc] at hx
  exact open_plain (C := C) d h hx

end Go.VI
