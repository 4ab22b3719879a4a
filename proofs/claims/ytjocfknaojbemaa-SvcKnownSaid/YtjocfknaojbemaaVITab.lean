/-
  Tables of contracts, of functions and of loops; a loop's contract out of its round.
-/
import Derived.Test.YtjocfknaojbemaaVINorm
import Derived.Test.YtjocfknaojbemaaVILocal1
namespace Go.VI

universe u
variable {P : Program} {E : Env}

/-- What follows where something is told. -/
def bnd {α R : Type} (x : Option α) (k : α → Option R) : Option R := match x with
  | some a => k a
  | none => none
@[simp] theorem bnd_some {α R : Type} (a : α) (k : α → Option R) : bnd (some a) k = k a := rfl
@[simp] theorem bnd_none {α R : Type} (k : α → Option R) : bnd none k = none := rfl
theorem bnd_bnd {α β R : Type} (x : Option α) (f : α → Option β) (k : β → Option R) : bnd (bnd x f) k = bnd x fun a => bnd (f a) k := by cases x <;> rfl
theorem bnd_br {α R : Type} (c : Bool) (x y : Option α) (k : α → Option R) : bnd (br c x y) k = br c (bnd x k) (bnd y k) := by cases c <;> rfl
theorem bnd_id {α : Type} (x : Option α) : bnd x some = x := by cases x <;> rfl
theorem app_br {α β : Type} (f : α → β) (c : Bool) (x y : α) : f (br c x y) = br c (f x) (f y) := by cases c <;> rfl

abbrev LoopC := ∀ R : Type, Fr → Heap → (X → Fr → Heap → Option R) → Option R

def firstId : Code → Option Nat
  | .region id _ _ => some id
  | .seq a b => match firstId a with
    | some i => some i
    | none => firstId b
  | .cond _ a b => match firstId a with
    | some i => some i
    | none => firstId b
  | .block _ c => firstId c
  | .loop c => firstId c
  | _ => none
def isId (id : Nat) (c : Code) : Bool := match firstId c with
  | some i => Nat.beq i id
  | none => false
def bodyOf (P : Program) (f : FuncId) : Code := match P.funcs[f]? with
  | some fn => match fn.body with
    | some c => c
    | none => .skip
  | none => .skip
/-- The loop's body of a function that begins with a region of that number. -/
def loopAt (P : Program) (f : FuncId) (id : Nat) : Code := ((loopsIn (bodyOf P f)).filter (isId id)).headD .skip
def loopOnce (P : Program) (f : FuncId) (id : Nat) : Bool := Nat.beq ((loopsIn (bodyOf P f)).filter (isId id)).length 1

def lukF {α : Type u} : List (Nat × α) → Nat → Option α
  | [], _ => none
  | (k, v) :: r, n => bif Nat.beq k n then some v else lukF r n
theorem lukF_mem {α : Type u} : ∀ {l : List (Nat × α)} {g : Nat} {te : α}, lukF l g = some te → (g, te) ∈ l
  | [], _, _, h => by cases h
  | (k, v) :: r, g, te, h => by
    simp only [lukF] at h
    cases hb : Nat.beq k g with
    | true =>
      rw [hb] at h
      cases h
      rw [Nat.eq_of_beq_eq_true hb]
      simp
    | false =>
      rw [hb] at h
      exact List.mem_cons_of_mem _ (lukF_mem h)
def lukB : List (Nat × Nat × LoopC) → Nat → Code → Option LoopC
  | [], _, _ => none
  | (k, id, v) :: r, n, c => bif Nat.beq k n && isId id c then some v else lukB r n c
theorem lukB_mem : ∀ {l : List (Nat × Nat × LoopC)} {f : Nat} {c : Code} {v : LoopC}, lukB l f c = some v → ∃ id, (f, id, v) ∈ l ∧ isId id c = true
  | [], _, _, _, h => by cases h
  | (k, id, x) :: r, f, c, v, h => by
    simp only [lukB] at h
    cases hb : Nat.beq k f && isId id c with
    | true =>
      rw [hb] at h
      cases h
      simp only [Bool.and_eq_true] at hb
      refine ⟨id, ?_, hb.2⟩
      rw [Nat.eq_of_beq_eq_true hb.1]
      simp
    | false =>
      rw [hb] at h
      obtain ⟨id', h1, h2⟩ := lukB_mem h
      exact ⟨id', List.mem_cons_of_mem _ h1, h2⟩

/-- A table of functions' contracts and of loops' contracts (function, number of the first region, contract). -/
def tabL (l : List (Nat × TE)) (m : List (Nat × Nat × LoopC)) : Tab := { fns := lukF l, loops := lukB m }
def FnOk (P : Program) (g : Nat) (te : TE) : Prop := ∀ (R : Type) (xs : List A) (C : Cx) (k : A → Heap → Option R) (r : R), Rel C → te R xs C.H k = some r → CallOk P g xs C k r
def LpOk (P : Program) (f id : Nat) (l : LoopC) : Prop := loopOnce P f id = true ∧ ∀ (R : Type) n, (match P.funcs[f]? with | some fn => fn.ntmps | none => 0) ≤ n → LoopOk P n (loopAt P f id) (l R)

theorem loopAt_of {f id : Nat} {fn : Func} {c body : Code} (h1 : loopOnce P f id = true) (h2 : P.funcs[f]? = some fn) (h3 : fn.body = some c) (h4 : body ∈ loopsIn c) (h5 : isId id body = true) : body = loopAt P f id := by
  have e : bodyOf P f = c := by unfold bodyOf; rw [h2]; simp only [h3]
  unfold loopOnce at h1
  unfold loopAt
  rw [e] at h1 ⊢
  have hm : body ∈ (loopsIn c).filter (isId id) := List.mem_filter.2 ⟨h4, h5⟩
  have hl := Nat.eq_of_beq_eq_true h1
  match hx : (loopsIn c).filter (isId id), hl, hm with
  | [a], _, hm => simpa using hm

theorem tabL_ok {l : List (Nat × TE)} {m : List (Nat × Nat × LoopC)} (h1 : ∀ p ∈ l, FnOk P p.1 p.2) (h2 : ∀ p ∈ m, LpOk P p.1 p.2.1 p.2.2) : TabOk P (tabL l m) where
  fns g te hg R xs C k r hR hk := h1 _ (lukF_mem hg) R xs C k r hR hk
  loops f body v fn c hl hfn hc hb R n hn := by
    obtain ⟨id, hm, hid⟩ := lukB_mem hl
    obtain ⟨k1, k2⟩ := h2 _ hm
    rw [loopAt_of k1 hfn hc hb hid]
    exact k2 R n (by simp only [hfn]; exact hn)

/-- Calls as functions' bodies see them. -/
def callT (E : Env) (T : Tab) (u d : Nat) (R : Type) : CallK R := fun g as H k => match T.fns g with
  | some te => te R as H k
  | none => viF E T u d g as H k
def loopsT (T : Tab) (f : Nat) (R : Type) : Code → Option (LoopK R) := fun body => match T.loops f body with
  | some l => some (l R)
  | none => none
theorem callT_ok {T : Tab} {u d : Nat} {R : Type} (hE : EnvOk P E) (hT : TabOk P T) : CallSound P (callT E T u d R) := fun g as C k r hR h => by
  unfold callT at h
  split at h
  · rename_i te hte
    exact hT.fns g te hte R as C k r hR h
  · exact viF_sound hE hT R d g as C k r hR h

theorem wfC_loops {n : Nat} : ∀ (c : Code), wfC n c = true → ∀ b ∈ loopsIn c, wfC n b = true
  | .skip, _, b, hb => by cases hb
  | .region .., _, b, hb => by cases hb
  | .seq x y, h, b, hb => by
    simp only [wfC, Bool.and_eq_true] at h
    simp only [loopsIn, List.mem_append] at hb
    exact hb.elim (wfC_loops x h.1 b) (wfC_loops y h.2 b)
  | .cond _ x y, h, b, hb => by
    simp only [wfC, Bool.and_eq_true] at h
    simp only [loopsIn, List.mem_append] at hb
    exact hb.elim (wfC_loops x h.1 b) (wfC_loops y h.2 b)
  | .block _ x, h, b, hb => by
    simp only [wfC] at h
    exact wfC_loops x h b hb
  | .loop x, h, b, hb => by
    simp only [wfC] at h
    simp only [loopsIn, List.mem_cons] at hb
    rcases hb with rfl | hb
    · exact h
    · exact wfC_loops x h b hb
  | .exit _, _, b, hb => by cases hb
  | .ret, _, b, hb => by cases hb
  | .rangeFunc .., _, b, hb => by cases hb
  | .scope _, _, b, hb => by cases hb
  | .label _, _, b, hb => by cases hb
  | .goto _, _, b, hb => by cases hb
  | .refuse _, _, b, hb => by cases hb
theorem loops_sub : ∀ (c : Code) {b b' : Code}, b ∈ loopsIn c → b' ∈ loopsIn b → b' ∈ loopsIn c
  | .skip, b, b', h, _ => by cases h
  | .region .., b, b', h, _ => by cases h
  | .seq x y, b, b', h, k => by
    simp only [loopsIn, List.mem_append] at h ⊢
    exact h.elim (fun h => .inl (loops_sub x h k)) (fun h => .inr (loops_sub y h k))
  | .cond _ x y, b, b', h, k => by
    simp only [loopsIn, List.mem_append] at h ⊢
    exact h.elim (fun h => .inl (loops_sub x h k)) (fun h => .inr (loops_sub y h k))
  | .block _ x, b, b', h, k => loops_sub x h k
  | .loop x, b, b', h, k => by
    simp only [loopsIn, List.mem_cons] at h ⊢
    rcases h with rfl | h
    · exact .inr k
    · exact .inr (loops_sub x h k)
  | .exit _, b, b', h, _ => by cases h
  | .ret, b, b', h, _ => by cases h
  | .rangeFunc .., b, b', h, _ => by cases h
  | .scope _, b, b', h, _ => by cases h
  | .label _, b, b', h, _ => by cases h
  | .goto _, b, b', h, _ => by cases h
  | .refuse _, b, b', h, _ => by cases h

/-- A loop's run: what its contract comes to. -/
def runL (E : Env) (T : Tab) (u d f id : Nat) (nm : Nat → Fr → Heap → Option (Fr × Heap)) (b : Nat) {R : Type} (K : X → Fr → Heap → Option R) (v : Nat) (tm : Fr) (H : Heap) : Option R :=
  goN E (callT E T u d R) (loopsT T f R) u nm (loopAt E.P f id) b K v tm H
/-- One round. -/
def roundL (E : Env) (T : Tab) (u d f id : Nat) (nm : Nat → Fr → Heap → Option (Fr × Heap)) (b : Nat) {R : Type} (KN : Fr → Heap → Option R) (K : X → Fr → Heap → Option R) (tm : Fr) (H : Heap) : Option R :=
  viC E (callT E T u d R) (loopsT T f R) u (loopAt E.P f id) tm H fun e tm2 H2 => match nm b tm2 H2 with
    | none => none
    | some (tm3, H3) => match e with
      | .norm => KN tm3 H3
      | e => K e tm3 H3
theorem runL_succ (T : Tab) (u d f id : Nat) (nm : Nat → Fr → Heap → Option (Fr × Heap)) (b : Nat) {R : Type} (K : X → Fr → Heap → Option R) (v : Nat) (tm : Fr) (H : Heap) :
    runL E T u d f id nm b K (v + 1) tm H = roundL E T u d f id nm b (runL E T u d f id nm b K v) K tm H := rfl

theorem lp_ok {T : Tab} {u d f id : Nat} {nm : Nat → Fr → Heap → Option (Fr × Heap)} {l : LoopC} (hE : EnvOk P E) (hT : TabOk P T) (hn : NormOk nm) (hf : E.ok f = true) (h1 : loopOnce P f id = true)
    (h2 : ∀ (R : Type) tm H K (r : R), l R tm H K = some r → ∃ v tm1 H1, nm H.next tm H = some (tm1, H1) ∧ runL E T u d f id nm H.next K v tm1 H1 = some r) : LpOk P f id l := by
  refine ⟨h1, fun R n hnt => ?_⟩
  have hwf := hE.ok f hf
  unfold wfF at hwf
  have hP := hE.prog
  cases hfn : P.funcs[f]? with
  | none => rw [hfn] at hwf; cases hwf
  | some fn =>
    rw [hfn] at hwf hnt
    simp only [Bool.and_eq_true] at hwf
    cases hc : fn.body with
    | none => rw [hc] at hwf; simp at hwf
    | some c =>
      rw [hc] at hwf
      have hmem : loopAt P f id ∈ loopsIn c := by
        have e : bodyOf P f = c := by unfold bodyOf; rw [hfn]; simp only [hc]
        have hl := Nat.eq_of_beq_eq_true h1
        unfold loopAt
        rw [e] at hl ⊢
        match hx : (loopsIn c).filter (isId id), hl with
        | [a], _ => exact (List.mem_filter.1 (by rw [hx]; simp : a ∈ (loopsIn c).filter (isId id))).1
      intro tm C a K r Q hs hR hf h hQ
      obtain ⟨v, tm1, H1, k1, k2⟩ := h2 R tm C.H K r h
      refine loopG_ok (E := E) (call := callT E T u d R) (loops := loopsT T f R) (u := u) (nm := nm) (v := v) hE (callT_ok hE hT) (fun b hb l hl => ?_) (wfC_mono hnt _ (wfC_loops c hwf.2 _ hmem)) hn tm C a K r Q hs hR hf ?_ hQ
      · unfold loopsT at hl
        split at hl
        · rename_i l0 hl0
          cases hl
          exact hT.loops f b l0 fn c hl0 hfn hc (loops_sub c hmem hb) R n hnt
        · cases hl
      · unfold loopG
        simp only [k1]
        unfold runL at k2
        rw [hP] at k2
        exact k2

end Go.VI
