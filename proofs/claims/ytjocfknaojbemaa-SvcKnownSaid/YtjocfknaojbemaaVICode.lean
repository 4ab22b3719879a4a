/-
  Code and functions do what the interpreter says.
-/
import Derived.Test.YtjocfknaojbemaaVIDraw
import Derived.LoopN
namespace Go.VI

variable {P : Program} {E : Env} {R : Type}

def exitOf : X → Exit
  | .norm => .normal
  | .exit id => .exit id
  | .ret => .ret

/-- What follows code: at whatever it ends as. -/
def Post (C : Cx) (a : Act) (n : Nat) (K : X → Fr → Heap → Option R) (r : R) (Q : Exit → Act → World → Prop) : Prop :=
  ∀ e (C' : Cx) a' tm', Step C C' → Rel C' → FR C' tm' a' → a'.tmps.size = n → a'.defers = a.defers → K e tm' C'.H = some r → Q (exitOf e) a' C'.w

abbrev LoopK (R : Type) := Fr → Heap → (X → Fr → Heap → Option R) → Option R

/-- What is said of a loop is so. -/
def LoopOk (P : Program) (n : Nat) (body : Code) (l : LoopK R) : Prop :=
  ∀ (tm : Fr) (C : Cx) (a : Act) K (r : R) Q, a.tmps.size = n → Rel C → FR C tm a → l tm C.H K = some r → Post C a n K r Q → (Code.loop body).wp P Q a C.w

theorem ev_sound {C : Cx} {tm : Fr} {a : Act} (hf : FR C tm a) (x : Operand) : VR C (ev tm x) (a.eval x) := by
  cases x with
  | tmp t => exact hf.get t
  | const v => exact ofConst_VR C v
  | global g => exact .bot _
  | func f => exact .func _ _ _ _ _ rfl rfl (fun _ h => absurd h (by simp)) (fun _ h => absurd h (by simp))

theorem range_map_get (ops : Array Oper) : (List.range ops.size).map (ops[·]?) = ops.toList.map some := by
  refine List.ext_getElem (by simp) fun i h1 h2 => ?_
  simp at h1
  simp [h1]

theorem FR.know {C : Cx} {tm : Fr} {a : Act} (hf : FR C tm a) {t : Nat} {b : Bool} (h : a.tmps.getD t undef = .bool b) : FR C ((t, .bool b) :: tm) a := by
  intro u v hu
  rw [luk_cons] at hu
  split at hu
  · rename_i hd
    cases hu
    subst hd
    rw [h]
    exact .bool _
  · exact hf u v hu

/-- The loops' bodies that lie in code. -/
def loopsIn : Code → List Code
  | .seq a b => loopsIn a ++ loopsIn b
  | .cond _ a b => loopsIn a ++ loopsIn b
  | .block _ c => loopsIn c
  | .loop c => c :: loopsIn c
  | _ => []

theorem viC_sound {n u : Nat} {call : CallK R} {loops : Code → Option (LoopK R)} (hE : EnvOk P E) (hc : CallSound P call) :
    ∀ (c : Code), (∀ body ∈ loopsIn c, ∀ l, loops body = some l → LoopOk P n body l) → wfC n c = true → ∀ {tm : Fr} {C : Cx} {a : Act} {K : X → Fr → Heap → Option R} {r : R} {Q : Exit → Act → World → Prop}, a.tmps.size = n → Rel C → FR C tm a → viC E call loops u c tm C.H K = some r → Post C a n K r Q → c.wp P Q a C.w
  | .skip, _, _, tm, C, a, K, r, Q, hs, hR, hf, h, hQ => wp_skip (hQ .norm C a tm (Step.refl C) hR hf hs rfl h)
  | .region id ops draw, _, hw, tm, C, a, K, r, Q, hs, hR, hf, h, hQ => by
    cases draw with
    | true =>
      simp only [viC] at h
      simp only [wfC, List.all_eq_true] at hw
      exact drawK_sound hE hc hw hs hR hf h fun C' a' tm' h1 h2 h3 h4 h5 h6 => hQ .norm C' a' tm' h1 h2 h3 h4 h5 h6
    | false =>
      simp only [viC] at h
      simp only [wfC, List.all_eq_true] at hw
      cases hsm : splitMode ops with
      | true =>
        rw [hsm] at h
        refine wp_region (regS_sound hE hc hw ops.toList 0 (List.range ops.size) tm C a (range_map_get ops) hs hR hf h ?_)
        exact fun C' a' tm' h1 h2 h3 h4 h5 h6 => hQ .norm C' a' tm' h1 h2 h3 h4 h5 h6
      | false =>
      rw [hsm] at h
      refine wp_region (regK_sound hE hc hw ops.toList (List.range ops.size) tm [] C a (range_map_get ops) hs hR hf (GS.nil _ _) h ?_)
      exact fun C' a' tm' h1 h2 h3 h4 h5 h6 => hQ .norm C' a' tm' h1 h2 h3 h4 h5 h6
  | .seq x y, hl, hw, tm, C, a, K, r, Q, hs, hR, hf, h, hQ => by
    simp only [viC] at h
    simp only [wfC, Bool.and_eq_true] at hw
    refine wp_seq (viC_sound hE hc x (fun b hb => hl b (List.mem_append_left _ hb)) hw.1 hs hR hf h fun e C' a' tm' h1 h2 h3 h4 h5 h6 => ?_)
    cases e with
    | norm => exact viC_sound hE hc y (fun b hb => hl b (List.mem_append_right _ hb)) hw.2 h4 h2 h3 h6 fun e2 C2 a2 tm2 k1 k2 k3 k4 k5 k6 => hQ e2 C2 a2 tm2 (h1.trans k1) k2 k3 k4 (k5.trans h5) k6
    | exit id => exact hQ (.exit id) C' a' tm' h1 h2 h3 h4 h5 h6
    | ret => exact hQ .ret C' a' tm' h1 h2 h3 h4 h5 h6
  | .cond c x y, hl, hw, tm, C, a, K, r, Q, hs, hR, hf, h, hQ => by
    simp only [viC] at h
    simp only [wfC, Bool.and_eq_true] at hw
    have hv := ev_sound hf c
    split at h
    · rename_i t b hb
      rw [hb] at hv
      have hv := VR_bool_inv hv
      rw [br_eq] at h
      cases b with
      | true => exact wp_cond_true hv (viC_sound hE hc x (fun b hb => hl b (List.mem_append_left _ hb)) hw.1 hs hR (hf.know hv) (by simpa using h) hQ)
      | false => exact wp_cond_false hv (viC_sound hE hc y (fun b hb => hl b (List.mem_append_right _ hb)) hw.2 hs hR (hf.know hv) (by simpa using h) hQ)
    · rename_i b hb0 hb
      rw [hb] at hv
      have hv := VR_bool_inv hv
      rw [br_eq] at h
      cases b with
      | true => exact wp_cond_true hv (viC_sound hE hc x (fun b hb => hl b (List.mem_append_left _ hb)) hw.1 hs hR hf (by simpa using h) hQ)
      | false => exact wp_cond_false hv (viC_sound hE hc y (fun b hb => hl b (List.mem_append_right _ hb)) hw.2 hs hR hf (by simpa using h) hQ)
    · cases h
  | .block id c, hl, hw, tm, C, a, K, r, Q, hs, hR, hf, h, hQ => by
    simp only [viC] at h
    simp only [wfC] at hw
    refine wp_block (viC_sound hE hc c hl hw hs hR hf h fun e C' a' tm' h1 h2 h3 h4 h5 h6 => ?_)
    cases e with
    | norm => exact hQ .norm C' a' tm' h1 h2 h3 h4 h5 h6
    | exit j =>
      simp only at h6
      simp only [exitOf, Exit.inBlock]
      by_cases hj : j = id
      · subst hj
        simp only [Nat.beq_refl, if_true] at h6
        rw [if_pos rfl]
        exact hQ .norm C' a' tm' h1 h2 h3 h4 h5 h6
      · have : Nat.beq j id = false := by
          cases hb : Nat.beq j id with
          | false => rfl
          | true => exact absurd (Nat.eq_of_beq_eq_true hb) hj
        rw [this] at h6
        rw [if_neg hj]
        exact hQ (.exit j) C' a' tm' h1 h2 h3 h4 h5 h6
    | ret => exact hQ .ret C' a' tm' h1 h2 h3 h4 h5 h6
  | .loop body, hl, hw, tm, C, a, K, r, Q, hs, hR, hf, h, hQ => by
    simp only [viC] at h
    simp only [wfC] at hw
    split at h
    · rename_i l hll
      exact hl body (List.mem_cons_self ..) l hll tm C a K r Q hs hR hf h hQ
    · refine wp_loop_rounds u ?_
      have key : ∀ (v : Nat) (tm : Fr) (C' : Cx) (a' : Act), Step C C' → a'.tmps.size = n → a'.defers = a.defers → Rel C' → FR C' tm a' →
          Nat.rec (motive := fun _ => Fr → Heap → Option R) (fun _ _ => none) (fun _ ih tm H => viC E call loops u body tm H (fun e tm1 H1 => match e with
          | .norm => ih tm1 H1
          | e => K e tm1 H1)) v tm C'.H = some r → Code.rounds P body Q v a' C'.w := by
        intro v
        induction v with
        | zero => intro tm C' a' _ _ _ _ _ h; cases h
        | succ v ih =>
          intro tm C' a' hst hs' hd' hR' hf' h
          simp only at h
          refine viC_sound hE hc body (fun b hb => hl b (List.mem_cons_of_mem _ hb)) hw hs' hR' hf' h fun e C2 a2 tm2 k1 k2 k3 k4 k5 k6 => ?_
          cases e with
          | norm => exact ih tm2 C2 a2 (hst.trans k1) k4 (k5.trans hd') k2 k3 k6
          | exit id => exact hQ (.exit id) C2 a2 tm2 (hst.trans k1) k2 k3 k4 (k5.trans hd') k6
          | ret => exact hQ .ret C2 a2 tm2 (hst.trans k1) k2 k3 k4 (k5.trans hd') k6
      exact key u tm C a (Step.refl C) hs rfl hR hf h
  | .exit id, _, _, tm, C, a, K, r, Q, hs, hR, hf, h, hQ => wp_exit (hQ (.exit id) C a tm (Step.refl C) hR hf hs rfl h)
  | .ret, _, _, tm, C, a, K, r, Q, hs, hR, hf, h, hQ => wp_ret (hQ .ret C a tm (Step.refl C) hR hf hs rfl h)
  | .rangeFunc .., _, _, _, _, _, _, _, _, _, _, _, h, _ => by cases h
  | .scope _, _, _, _, _, _, _, _, _, _, _, _, h, _ => by cases h
  | .label _, _, _, _, _, _, _, _, _, _, _, _, h, _ => by cases h
  | .goto _, _, _, _, _, _, _, _, _, _, _, _, h, _ => by cases h
  | .refuse _, _, _, _, _, _, _, _, _, _, _, _, h, _ => by cases h

end Go.VI
