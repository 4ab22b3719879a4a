/-
  Values without memory of their own: they are the same in every context. Calls with such arguments.
-/
import Derived.Test.YtjocfknaojbemaaVIFun
namespace Go.VI

mutual
/-- No memory that may be written lies in it. -/
def pureA : A → Bool
  | .func _ f c => pureL f && pureL c
  | .iface _ v => pureA v
  | .iaddr cs => pureL cs
  | .agg cs => pureL cs
  | .tup cs => pureL cs
  | .ptr _ _ => false
  | .hsl _ _ _ => false
  | .rptr _ _ _ _ => false
  | .map _ => false
  | .iter _ => false
  | _ => true
def pureL : List A → Bool
  | [] => true
  | a :: r => pureA a && pureL r
end

theorem pureL_get : ∀ {l : List A}, pureL l = true → ∀ i, i < l.length → pureA (l.getD i .bot) = true
  | [], _, i, hi => absurd hi (by simp)
  | a :: r, h, i, hi => by
    simp only [pureL, Bool.and_eq_true] at h
    cases i with
    | zero => exact h.1
    | succ i => exact pureL_get h.2 i (by simpa using hi)

variable {P : Program}

/-- What may be read in one context may be read in the other. -/
def Same (C C' : Cx) : Prop := ∀ b, b < C.w.heap.size → ¬ C.own b → C'.w.heap[b]? = C.w.heap[b]? ∧ ¬ C'.own b

theorem VR.shift {C C' : Cx} (h : Same C C') {a : A} {v : Value} (hv : VR C a v) : pureA a = true → VR C' a v := by
  have k2 : ∀ b c e fr, C.w.heap[b]? = some (.cells c e fr) → ¬ C.own b → C'.w.heap[b]? = some (.cells c e fr) ∧ ¬ C'.own b := fun b c e fr hb ho => by
    obtain ⟨h1, h2⟩ := h b (heap_lt hb) ho
    exact ⟨h1.trans hb, h2⟩
  induction hv with
  | bot v => exact fun _ => .bot v
  | bool b => exact fun _ => .bool b
  | int k n => exact fun _ => .int k n
  | str l s hs => exact fun _ => .str l s hs
  | nilp => exact fun _ => .nilp
  | nils => exact fun _ => .nils
  | nilm => exact fun _ => .nilm
  | nilf => exact fun _ => .nilf
  | nili => exact fun _ => .nili
  | ptr n o b hb => intro hp; cases hp
  | sl0 t a cap => exact fun _ => .sl0 t a cap
  | sl t xs b o cap c e fr hb ho hs hcap hc h1 ih =>
    intro _
    obtain ⟨hb', ho'⟩ := k2 b c e fr hb ho
    refine .sl t xs b o cap c e fr hb' ho' hs hcap (fun i j hi hj => ih i j hi hj ?_) h1
    exact pureL_get (pure_enc t (rd xs i)) j (by rw [enc_length]; exact hj)
  | hsl n g sub a len cap hn hcap hle hh => intro hp; cases hp
  | rptr n g i o v hn h1 hle hh => intro hp; cases hp
  | map n b hb => intro hp; cases hp
  | iter n b hb => intro hp; cases hp
  | func fn first cap f c hf hc _ _ i1 i2 =>
    intro hp
    simp only [pureA, Bool.and_eq_true] at hp
    exact .func fn first cap f c hf hc (fun i hi => i1 i hi (pureL_get hp.1 i hi)) (fun i hi => i2 i hi (pureL_get hp.2 i hi))
  | iface t a v _ ih =>
    intro hp
    simp only [pureA] at hp
    exact .iface t a v (ih hp)
  | iaddr cs b o c e fr hb ho hs _ h1 ih =>
    intro hp
    simp only [pureA] at hp
    obtain ⟨hb', ho'⟩ := k2 b c e fr hb ho
    exact .iaddr cs b o c e fr hb' ho' hs (fun i hi => ih i hi (pureL_get hp i hi)) h1
  | agg cs c hs _ h1 ih =>
    intro hp
    simp only [pureA] at hp
    exact .agg cs c hs (fun i hi => ih i hi (pureL_get hp i hi)) h1
  | tup cs c hs _ ih =>
    intro hp
    simp only [pureA] at hp
    exact .tup cs c hs (fun i hi => ih i hi (pureL_get hp i hi))
where
  pure_app : ∀ {l m : List A}, pureL l = true → pureL m = true → pureL (l ++ m) = true
    | [], _, _, h => h
    | a :: r, m, h, k => by
      simp only [pureL, Bool.and_eq_true] at h
      simp only [List.cons_append, pureL, Bool.and_eq_true]
      exact ⟨h.1, pure_app h.2 k⟩
  pure_enc : (t : Ty) → (x : t.den) → pureL (enc t x) = true
    | .unit, _ => rfl
    | .bool, _ => rfl
    | .int _, _ => rfl
    | .str, _ => rfl
    | .sl _, _ => rfl
    | .pair a b, x => pure_app (pure_enc a x.1) (pure_enc b x.2)
    | .ref t, x => match x with
      | none => rfl
      | some y => by
        simp only [enc, pureL, pureA, Bool.and_true]
        exact pure_enc t y
    | .fn, none => rfl
    | .fn, some _ => rfl
    | .nsl _, none => rfl
    | .nsl _, some _ => rfl

/-- The same world, as one sees it who has none of it. -/
def Cx.bare (C : Cx) : Cx := { w := C.w, H := ⟨0, []⟩, ρ := fun _ => none, η := fun _ => none, hid := C.own }

theorem bare_own {C : Cx} {b : Nat} : C.bare.own b ↔ C.own b := by
  constructor
  · rintro (h | ⟨n, x, hx, _, _⟩)
    · exact h
    · cases hx
  · exact fun h => .inl h

theorem own_lt {C : Cx} (hR : Rel C) {b : Nat} (h : C.own b) : b < C.w.heap.size := by
  rcases h with h | ⟨n, x, hx, _, hbo⟩
  · exact (hR.hid b h).1
  · exact hR.lt hx hbo

theorem bare_rel {C : Cx} (hR : Rel C) : Rel C.bare where
  names _ _ := ⟨rfl, rfl⟩
  blocks _ _ h := by cases h
  dist _ _ _ _ _ h := by cases h
  hid b hb := ⟨own_lt hR hb, fun _ _ h => by cases h⟩

/-- A contract: what a function comes to, where it is given no memory and gives none back. -/
def pureTE (E : Env) (T : Tab) (u d : Nat) (g : FuncId) : TE := fun R as H k =>
  if pureL as then viF (R := R) E T u d g as ⟨0, []⟩ (fun v _ => if pureA v then k v H else none) else none

theorem pureTE_ok {E : Env} {T : Tab} {u d : Nat} (hE : EnvOk P E) (hT : TabOk P T) {g : FuncId} (R : Type) (as : List A) (C : Cx) (k : A → Heap → Option R) (r : R) (hR : Rel C) (h : pureTE E T u d g R as C.H k = some r) : CallOk P g as C k r := by
  unfold pureTE at h
  split at h
  case isFalse => cases h
  rename_i hp
  obtain ⟨h1, h2⟩ := viF_sound hE hT R d g as C.bare _ r (bare_rel hR) h
  refine ⟨h1, fun vs hvs => ?_⟩
  have hs : Same C C.bare := fun b _ ho => ⟨rfl, fun h => ho (bare_own.1 h)⟩
  refine (h2 vs ⟨hvs.1, fun i hi => (hvs.2 i hi).shift hs (pureL_get hp i hi)⟩).mono fun e w' he => ?_
  cases e with
  | returned v =>
    obtain ⟨C', x, hw, hv, hR', hst, hk⟩ := he
    dsimp only at hk
    split at hk
    case isFalse => cases hk
    rename_i hpx
    subst hw
    have hsame : ∀ b, b < C.w.heap.size → C'.w.heap[b]? = C.w.heap[b]? := fun b hb => by
      by_cases ho : C.own b
      · exact hst.hframe b hb ho
      · exact hst.frame b hb fun h => ho (bare_own.1 h)
    have hbo : ∀ n x, blockOf { C with w := C'.w } n x = blockOf C n x := fun n x => by cases x <;> rfl
    have hstep : Step C { C with w := C'.w } := {
      next := Nat.le_refl _, ρ := fun _ _ h => h
      rows := fun _ b g _ h hg => ⟨b, g, h, hg, Nat.le_refl _, fun _ => ⟨rfl, rfl, rfl⟩⟩
      size := hst.size, frame := fun b hb _ => hsame b hb
      own := fun b hb => by
        rcases hb with hb | ⟨n, x, hx, hr, hb⟩
        · exact .inl (.inl hb)
        · exact .inl (.inr ⟨n, x, hx, hr, by rw [← hbo]; exact hb⟩)
      hid := fun _ h => h, hframe := fun b hb _ => hsame b hb
      dead := fun _ _ h => ⟨h, rfl⟩
      os := hst.os, tape := hst.tape, output := hst.output }
    have hsm : Same C' { C with w := C'.w } := fun b _ ho => ⟨rfl, fun h => ho (.inl (by
      refine hst.hid b ?_
      rcases h with h | ⟨n, y, hy, hr, hb⟩
      · exact .inl h
      · exact .inr ⟨n, y, hy, hr, by rw [← hbo]; exact hb⟩))⟩
    refine ⟨{ C with w := C'.w }, x, rfl, hv.shift hsm hpx, ?_, hstep, hk⟩
    exact {
        names := hR.names
        blocks := fun n x hx => (hR.blocks n x hx).keep hstep rfl fun b o hb ho => by rw [hsame b (hR.lt hx hb)]; exact ho
        dist := fun n m x y b hx hy hr h1 h2 => hR.dist n m x y b hx hy hr (by rw [← hbo]; exact h1) (by rw [← hbo]; exact h2)
        hid := fun b hb => ⟨Nat.lt_of_lt_of_le (hR.hid b hb).1 hst.size, fun n x hx h => (hR.hid b hb).2 n x hx (by rw [← hbo]; exact h)⟩ }
  | panicked ch => exact he.elim
  | outgrown => exact he.elim

end Go.VI
