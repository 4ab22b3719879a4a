/-
  Regions that are run in the text's order do what the interpreter says.
-/
import Derived.Test.YtjocfknaojbemaaVIOp
import Derived.Calls
namespace Go.VI

variable {P : Program} {E : Env} {R : Type}

def slot (a : Act) (t : Nat) : Value := a.tmps.getD t undef

theorem slot_put {a : Act} {d t : Nat} {v : Value} (h : d ≠ t) : slot (a.put (some d) v) t = slot a t := by
  simp [slot, Act.put, Array.getD_eq_getD_getElem?, Array.getElem?_setIfInBounds_ne h]
theorem slot_put_self {a : Act} {d : Nat} {v : Value} (h : d < a.tmps.size) : slot (a.put (some d) v) d = v := by
  simp [slot, Act.put, Array.getD_eq_getD_getElem?, h]
theorem slot_put_undef {a : Act} {d : Nat} : slot (a.put (some d) undef) d = undef := by
  by_cases h : d < a.tmps.size
  · exact slot_put_self h
  · simp [slot, Act.put, Array.getD_eq_getD_getElem?, h]

theorem VR_undef (C : Cx) : VR C (.tup []) undef := .tup _ _ rfl fun _ h => absurd h (by simp)
theorem VR_undef_inv {C : Cx} {v : Value} (h : VR C (.tup []) v) : v = undef := by
  cases h with
  | tup _ c hs _ =>
    have : c = #[] := Array.eq_empty_of_size_eq_zero hs
    subst this; rfl
theorem VR_bool_inv {C : Cx} {v : Value} {b : Bool} (h : VR C (.bool b) v) : v = .bool b := by cases h; rfl

/-- What is known of guarded slots is so. -/
def GS (C : Cx) (gm : Gs) (a : Act) : Prop := ∀ g ∈ gm, (slot a g.key = .bool g.want → VR C g.val (slot a g.slot)) ∧ (slot a g.key ≠ .bool g.want → slot a g.slot = undef)

theorem GS.keep {C C' : Cx} {gm : Gs} {a : Act} (h : Step C C') (hg : GS C gm a) : GS C' gm a := fun g hgm => ⟨fun hk => ((hg g hgm).1 hk).keep h, (hg g hgm).2⟩
theorem GS.nil (C : Cx) (a : Act) : GS C [] a := fun _ h => by cases h

theorem GS.drop {C : Cx} {gm : Gs} {a : Act} (hg : GS C gm a) (d : Option Nat) (v : Value) (hcl : clash gm d = false) : GS C gm (a.put d v) := by
  cases d with
  | none => exact hg
  | some d =>
    intro g hgm
    simp only [clash, List.any_eq_false] at hcl
    have h1 := hcl g hgm
    have n1 : d ≠ g.slot := fun e => by subst e; simp at h1
    have n2 : d ≠ g.key := fun e => by subst e; simp at h1
    rw [slot_put n1, slot_put n2]
    exact hg g hgm

theorem gluk_mem : ∀ {gm : Gs} {t : Nat} {g : Gd}, gluk gm t = some g → g ∈ gm ∧ g.slot = t
  | [], _, _, h => by cases h
  | x :: r, t, g, h => by
    unfold gluk at h
    split at h
    · rename_i hb
      cases h
      exact ⟨by simp, Nat.eq_of_beq_eq_true hb⟩
    · obtain ⟨h1, h2⟩ := gluk_mem h
      exact ⟨by simp [h1], h2⟩

def AsOk (a : Act) (as : List (Nat × Bool)) : Prop := ∀ p ∈ as, slot a p.1 = .bool p.2

theorem evG_sound {C : Cx} {tm : Fr} {gm : Gs} {a : Act} {as : List (Nat × Bool)} (hf : FR C tm a) (hg : GS C gm a) (ha : AsOk a as) (x : Operand) : VR C (evG tm gm as x) (a.eval x) := by
  cases x with
  | tmp t =>
    simp only [evG, Act.eval]
    split
    · rename_i g h
      obtain ⟨h1, h2⟩ := gluk_mem h
      split
      · rename_i hc
        have hm : (g.key, g.want) ∈ as := by simpa using hc
        have := (hg g h1).1 (ha _ hm)
        rw [h2] at this
        exact this
      · exact .bot _
    · exact hf.get t
  | const v => exact ofConst_VR C v
  | global g => exact .bot _
  | func f => exact .func _ _ _ _ _ rfl rfl (fun _ h => absurd h (by simp)) (fun _ h => absurd h (by simp))

theorem undef_bool {b : Bool} : undef ≠ .bool b := by intro h; cases h

theorem need_sound {C : Cx} {gm : Gs} {a : Act} (hg : GS C gm a) : ∀ (f t : Nat) (b : Bool), slot a t = .bool b → AsOk a (need gm f t)
  | 0, _, _, _ => fun p hp => by simp [need] at hp
  | f + 1, t, b, h => by
    unfold need
    split
    · rename_i g hgl
      obtain ⟨h1, h2⟩ := gluk_mem hgl
      have hk : slot a g.key = .bool g.want := by
        by_cases hh : slot a g.key = .bool g.want
        · exact hh
        · have := (hg g h1).2 hh
          rw [h2, h] at this
          exact absurd this.symm undef_bool
      intro p hp
      rcases List.mem_cons.1 hp with rfl | hp
      · exact hk
      · exact need_sound hg f _ _ hk p hp
    · intro p hp; cases hp

theorem eqw_iff (b w : Bool) : eqw b w = true ↔ b = w := by cases b <;> cases w <;> simp [eqw]

theorem holds_sound {C : Cx} {tm : Fr} {gm : Gs} {a : Act} (hf : FR C tm a) (hg : GS C gm a) : ∀ (f t : Nat) (w b : Bool), holds tm gm f t w = some b → (b = true ↔ slot a t = .bool w)
  | 0, _, _, _, h => by cases h
  | f + 1, t, w, b, h => by
    unfold holds at h
    split at h
    · rename_i g hgl
      obtain ⟨h1, h2⟩ := gluk_mem hgl
      split at h
      · rename_i b' c hv hh
        cases h
        have ih := holds_sound hf hg f g.key g.want c hh
        have hgg := hg g h1
        rw [hv, h2] at hgg
        by_cases hk : slot a g.key = .bool g.want
        · have hc := ih.2 hk
          subst hc
          have := VR_bool_inv (hgg.1 hk)
          rw [this]
          simp [eqw_iff]
        · have hc : c = false := by
            cases c with
            | false => rfl
            | true => exact absurd (ih.1 rfl) hk
          subst hc
          rw [hgg.2 hk]
          simp [undef_bool]
      · cases h
    · split at h
      · rename_i b' hv
        cases h
        have := hf.get t
        rw [hv] at this
        have := VR_bool_inv this
        simp only [slot, this, eqw_iff]
        simp
      · rename_i hv
        cases h
        have := hf.get t
        rw [hv] at this
        have := VR_undef_inv this
        simp only [slot, this]
        simp [undef_bool]
      · cases h

theorem resolve_sound {C : Cx} {a : Act} {t : Nat} {b : Bool} (hb : slot a t = .bool b) : ∀ {gm : Gs} {tm : Fr}, FR C tm a → GS C gm a → FR C (resolve t (some b) gm tm).2 a ∧ GS C (resolve t (some b) gm tm).1 a
  | [], tm, hf, _ => ⟨hf, GS.nil _ _⟩
  | g :: r, tm, hf, hg => by
    obtain ⟨h1, h2⟩ := resolve_sound hb (gm := r) hf fun x hx => hg x (by simp [hx])
    have h3 := hg g (by simp)
    unfold resolve
    split
    rename_i gs tm1 he
    rw [he] at h1 h2
    split
    · rename_i hk
      have hk := Nat.eq_of_beq_eq_true hk
      refine ⟨fun u v hu => ?_, h2⟩
      rw [luk_cons] at hu
      split at hu
      · rename_i hsu
        cases hu
        rw [hk, hb, hsu] at h3
        split
        · rename_i hbw
          cases hbw
          exact h3.1 rfl
        · rename_i hbw
          have := h3.2 (fun e => hbw (by cases e; rfl))
          show VR C _ (slot a u)
          rw [this]
          exact VR_undef C
      · exact h1 u v hu
    · exact ⟨h1, fun x hx => by rcases List.mem_cons.1 hx with rfl | hx; exact h3; exact h2 x hx⟩

theorem settle_sound {C : Cx} {a : Act} {t : Nat} {b : Bool} {gm : Gs} {tm : Fr} (hb : slot a t = .bool b) (hf : FR C tm a) (hg : GS C gm a) : FR C (settle gm tm t b).2 a ∧ GS C (settle gm tm t b).1 a := by
  refine resolve_sound hb (fun u v hu => ?_) hg
  rw [luk_cons] at hu
  split at hu
  · rename_i h
    cases hu
    subst h
    show VR C _ (slot a t)
    rw [hb]
    exact .bool _
  · exact hf u v hu

theorem FR.setT {C : Cx} {tm : Fr} {a : Act} {d : Option Nat} {v : A} {cv : Value} (hf : FR C tm a) (hd : ∀ t, d = some t → t < a.tmps.size) (hv : VR C v cv) : FR C (setT tm d v) (a.put d cv) := by
  cases d with
  | none => exact hf
  | some d => exact hf.put (hd d rfl) hv
theorem FR.putUndef {C : Cx} {tm : Fr} {a : Act} {d : Option Nat} (hf : FR C tm a) : FR C (VI.setT tm d (.tup [])) (a.put d undef) := by
  cases d with
  | none => exact hf
  | some d =>
    intro t v ht
    simp only [VI.setT] at ht
    rw [luk_cons] at ht
    split at ht
    · rename_i h
      cases ht
      subst h
      show VR C _ (slot _ d)
      rw [slot_put_undef]
      exact VR_undef C
    · rename_i h
      show VR C _ (slot _ t)
      rw [slot_put h]
      exact hf t v ht

theorem quiet_heap {ρ : Operand → A} {H H1 : Heap} {nm : Nat} {o : Oper} {ok : Bool} {v : A} (hq : quiet o = true) (h : opD E ρ H nm o = some (ok, v, H1)) : H1 = H := by
  unfold quiet at hq
  unfold opD at h
  split at hq <;> rename_i hop <;> simp only [hop] at h <;> first | (cases hq; done) | skip
  all_goals repeat' split at h
  all_goals first | (cases h; done) | (cases h; rfl) | skip
  all_goals first
    | (obtain ⟨u, _, he⟩ := Option.map_eq_some_iff.1 h
       exact (Prod.mk.inj (Prod.mk.inj he).2).2.symm)
    | skip
  all_goals
    rename_i hcal
    rw [hcal] at hq
    rename_i b
    cases b <;> first | (cases hq; done) | skip
    all_goals
      unfold builtinD at h
      repeat' split at h
      all_goals first | (cases h; done) | contradiction | skip
      all_goals
        obtain ⟨u, _, he⟩ := Option.map_eq_some_iff.1 h
        exact (Prod.mk.inj (Prod.mk.inj he).2).2.symm

theorem AsOk.cons {a : Act} {as : List (Nat × Bool)} {t : Nat} {b : Bool} (h : slot a t = .bool b) (ha : AsOk a as) : AsOk a ((t, b) :: as) := fun p hp => by
  rcases List.mem_cons.1 hp with rfl | hp
  · exact h
  · exact ha p hp

theorem pickOf_some {o : Oper} {c : Nat} {x y : Operand} (h : pickOf o = some (c, x, y)) : o.op = .pick (.tmp c) x y := by
  unfold pickOf at h
  split at h
  · rename_i hop; cases h; exact hop
  · cases h

theorem pickD_sound {C : Cx} {tm : Fr} {gm : Gs} {a : Act} {as : List (Nat × Bool)} {o : Oper} {c : Nat} {x y : Operand} {v : A} (hR : Rel C) (hf : FR C tm a) (hg : GS C gm a) (ha : AsOk a as) (hp : pickOf o = some (c, x, y)) (h : pickD tm gm as c x y = some v) : OutR P a o C v C.H := by
  have hop := pickOf_some hp
  unfold pickD at h
  split at h
  · rename_i t hc
    cases h
    have h1 := evG_sound hf hg ha (.tmp c)
    rw [hc] at h1
    have h2 := VR_bool_inv h1
    have h3 : slot a c = .bool t := h2
    exact op_pick hR hop h2 (fun ht => evG_sound hf hg (ha.cons (by rw [h3, ht])) x) (fun ht => evG_sound hf hg (ha.cons (by rw [h3, ht])) y)
  · cases h

theorem quietD_sound {C : Cx} {tm : Fr} {gm : Gs} {a : Act} {as : List (Nat × Bool)} {o : Oper} {v : A} (hE : EnvOk P E) (hR : Rel C) (hf : FR C tm a) (hg : GS C gm a) (ha : AsOk a as) (hq : quiet o = true) (h : quietD E tm gm as C.H o = some (true, v)) : OutR P a o C v C.H := by
  unfold quietD at h
  split at h
  · rename_i c x y hp
    split at h
    · rename_i u hu
      cases h
      exact pickD_sound hR hf hg ha hp hu
    · cases h
  · split at h
    · rename_i ok u H1 hd
      cases h
      have := quiet_heap hq hd
      subst this
      exact opD_sound hE hR (evG_sound hf hg ha) (Nat.le_refl _) hd
    · cases h

/-- Arguments, one by one. -/
def VRl (C : Cx) (as : List A) (vs : Array Value) : Prop := vs.size = as.length ∧ ∀ i, i < as.length → VR C (as.getD i .bot) (vs.getD i undef)

/-- What a call comes to: it returns, and what follows it comes to r. -/
def CallOk (P : Program) (g : FuncId) (as : List A) (C : Cx) (k : A → Heap → Option R) (r : R) : Prop :=
  (∃ fn, P.funcs[g]? = some fn ∧ fn.body.isNone = false ∧ (fn.name == "runtime.NumGoroutine") = false) ∧
  ∀ vs, VRl C as vs → Calls P g vs C.w fun
    | .returned v, w' => ∃ C' x, C'.w = w' ∧ VR C' x v ∧ Rel C' ∧ Step C C' ∧ k x C'.H = some r
    | _, _ => False
def CallSound (P : Program) (call : CallK R) : Prop := ∀ g as (C : Cx) k r, Rel C → call g as C.H k = some r → CallOk P g as C k r

theorem VRl.append {C : Cx} {l m : List A} {c d : Array Value} (h : VRl C l c) (k : VRl C m d) : VRl C (l ++ m) (c ++ d) := by
  refine ⟨by simp [h.1, k.1], fun i hi => ?_⟩
  rw [List.length_append] at hi
  by_cases hl : i < l.length
  · rw [getD_append_left _ _ _ _ hl]
    have : (c ++ d).getD i undef = c.getD i undef := by
      have : i < c.size := by rw [h.1]; exact hl
      simp [Array.getD_eq_getD_getElem?, Array.getElem?_append_left this]
    rw [this]
    exact h.2 i hl
  · rw [getD_append_right _ _ _ _ (by omega)]
    have : (c ++ d).getD i undef = d.getD (i - l.length) undef := by
      have : c.size ≤ i := by rw [h.1]; omega
      simp [Array.getD_eq_getD_getElem?, Array.getElem?_append_right this, h.1]
    rw [this]
    exact k.2 _ (by omega)

theorem VRl.map {C : Cx} {a : Act} {ρ : Operand → A} (hρ : ∀ x, VR C (ρ x) (a.eval x)) (xs : Array Operand) : VRl C (xs.toList.map ρ) (xs.map a.eval) := by
  refine ⟨by simp, fun i hi => ?_⟩
  simp only [List.length_map, Array.length_toList] at hi
  have e1 : (xs.toList.map ρ).getD i .bot = ρ xs[i] := by simp [List.getD_eq_getElem?_getD, hi]
  have e2 : (xs.map a.eval).getD i undef = a.eval xs[i] := by simp [Array.getD_eq_getD_getElem?, hi]
  rw [e1, e2]
  exact hρ _

theorem opK_sound {C : Cx} {a : Act} {ρ : Operand → A} {o : Oper} {call : CallK R} {k : A → Heap → Option R} {r : R} {next : Act → World → Prop} {Q : Exit → Act → World → Prop} (hE : EnvOk P E) (hc : CallSound P call) (hR : Rel C) (hρ : ∀ x, VR C (ρ x) (a.eval x))
    (h : opK E call ρ C.H o k = some r) (hn : ∀ C' v cv, Step C C' → Rel C' → VR C' v cv → k v C'.H = some r → next (a.put o.dst cv) C'.w) : o.wp P a C.w next Q := by
  unfold opK at h
  split at h
  · rename_i ok v H1 hd
    rw [Heap.norm_eq, br_eq] at h
    split at h
    · rename_i hok
      subst hok
      obtain ⟨C', nx, cv, h1, h2, h3, h4, h5, h6⟩ := opD_sound (a := a) hE hR hρ (Nat.le_refl _) hd
      unfold Oper.wp
      rw [h2]
      subst h1
      rcases h3 with rfl | ⟨rfl, rfl⟩
      · exact hn C' v cv h6 h5 h4 h
      · exact hn C' v undef h6 h5 h4 h
    · cases h
  · unfold bigK at h
    split at h
    · rename_i c hop
      split at h
      · rename_i f hcal
        split at h
        · rename_i g first cap hfn
          have hfv := hρ f
          rw [hfn] at hfv
          obtain ⟨⟨fn, hf1, hf2, hf3⟩, hcs⟩ := hc _ _ C _ _ hR h
          generalize haf : a.eval f = af at hfv
          cases hfv with
          | func _ _ _ fv cv hfs hcs' h1 h2 =>
          have hargs : VRl C (first ++ c.args.toList.map ρ ++ cap) (fv ++ c.args.map a.eval ++ cv) := VRl.append (VRl.append ⟨hfs, h1⟩ (VRl.map hρ c.args)) ⟨hcs', h2⟩
          have hrun : (execOp a.eval o).run P C.w = .ok (.enter g (fv ++ c.args.map a.eval ++ cv)) C.w := by
            simp only [execOp, hop, Go.resolve, hcal, haf, Deferred.ofValue, Sem.run_bind, Sem.run_pure, Result.andThen_ok, invoke, callFunc, run_program, hf1]
            simp [hf2, hf3]
          unfold Oper.wp
          rw [hrun, Oper.upon_enter]
          refine (hcs _ hargs).mono fun e w' he => ?_
          cases e with
          | returned v =>
            obtain ⟨C', x, hw, hv, hR', hst, hk⟩ := he
            subst hw
            exact hn C' x v hst hR' hv hk
          | panicked ch => exact he.elim
          | outgrown => exact he.elim
        · cases h
      · cases h
    · cases h

theorem wfO_dst {ops : Array Oper} {n : Nat} {o : Oper} (h : wfO ops n o = true) {d : Nat} (hd : o.dst = some d) : d < n := by
  unfold wfO at h
  rw [hd] at h
  simp only [Bool.and_eq_true] at h
  exact Nat.le_of_ble_eq_true h.1
theorem wfO_ne {ops : Array Oper} {n : Nat} {o : Oper} (h : wfO ops n o = true) {j t d : Nat} {w : Bool} (hg : o.guard = some (j, w)) (ht : dstOf ops j = some t) (hd : o.dst = some d) : d ≠ t := by
  unfold wfO at h
  rw [hd, hg] at h
  simp only [ht, Bool.and_eq_true, Bool.not_eq_true'] at h
  intro e
  subst e
  simp at h

theorem wanted_iff {ops : Array Oper} {a : Act} {o : Oper} {j t : Nat} {w : Bool} (hg : o.guard = some (j, w)) (ht : dstOf ops j = some t) : Region.wanted o (yielded ops a.tmps) = true ↔ slot a t = .bool w := by
  unfold dstOf at ht
  simp only [Region.wanted, hg, yielded, ht, Option.bind_some, slot, Array.getD_eq_getD_getElem?]
  cases hh : a.tmps[t]? with
  | none => simp [undef]
  | some v => cases v <;> simp

theorem slot_put_ne {a : Act} {d : Option Nat} {t : Nat} {v : Value} (h : ∀ x, d = some x → x ≠ t) : slot (a.put d v) t = slot a t := by
  cases d with
  | none => rfl
  | some x => exact slot_put (h x rfl)

theorem put_defers (a : Act) (d : Option Nat) (v : Value) : (a.put d v).defers = a.defers := by cases d <;> rfl

theorem regK_sound {ops : Array Oper} {n : Nat} {call : CallK R} {K : Fr → Heap → Option R} {r : R} {Q : Exit → Act → World → Prop} (hE : EnvOk P E) (hc : CallSound P call) (hwf : ∀ o ∈ ops.toList, wfO ops n o = true) :
    ∀ (l : List Oper) (is : List Nat) (tm : Fr) (gm : Gs) (C : Cx) (a : Act), is.map (ops[·]?) = l.map some → a.tmps.size = n → Rel C → FR C tm a → GS C gm a → regK E call ops l tm gm C.H K = some r →
      (∀ C' a' tm', Step C C' → Rel C' → FR C' tm' a' → a'.tmps.size = n → a'.defers = a.defers → K tm' C'.H = some r → Q .normal a' C'.w) → wpOps P ops Q is a C.w
  | [], is, tm, gm, C, a, his, ha, hR, hf, hg, h, hQ => by
    have : is = [] := by simpa using his
    subst this
    exact hQ C a tm (Step.refl C) hR hf ha rfl h
  | o :: rest, [], tm, gm, C, a, his, ha, hR, hf, hg, h, hQ => by simp at his
  | o :: rest, i :: is, tm, gm, C, a, his, ha, hR, hf, hg, h, hQ => by
    simp only [List.map_cons, List.cons.injEq] at his
    obtain ⟨hi, his⟩ := his
    have hmem : o ∈ ops.toList := by
      have := Array.mem_of_getElem? hi
      exact Array.mem_toList_iff.2 this
    have hw := hwf o hmem
    have hd : ∀ t, o.dst = some t → t < a.tmps.size := fun t ht => by rw [ha]; exact wfO_dst hw ht
    have hn0 : AsOk a [] := fun p hp => by cases hp
    -- what follows, behind a value
    have next : ∀ (C' : Cx) (a' : Act) (tm' : Fr) (gm' : Gs), Step C C' → Rel C' → FR C' tm' a' → GS C' gm' a' → a'.tmps.size = n → a'.defers = a.defers → regK E call ops rest tm' gm' C'.H K = some r → wpOps P ops Q is a' C'.w :=
      fun C' a' tm' gm' hst hR' hf' hg' hs hdf hk => regK_sound hE hc hwf rest is tm' gm' C' a' his hs hR' hf' hg' hk
        (fun C2 a2 tm2 s2 r2 f2 n2 d2 k2 => hQ C2 a2 tm2 (hst.trans s2) r2 f2 n2 (d2.trans hdf) k2)
    -- an operation that is done, and comes to v
    have fin : ∀ {v : A} {H1 : Heap}, OutR P a o C v H1 → ∀ (tm' : Act → Fr) (gm' : Gs), (∀ (C' : Cx) cv, Step C C' → VR C' v cv → FR C' (tm' (a.put o.dst cv)) (a.put o.dst cv) ∧ GS C' gm' (a.put o.dst cv)) →
        (∀ a', regK E call ops rest (tm' a') gm' H1 K = some r) → o.wp P a C.w (wpOps P ops Q is) Q := fun {v H1} hout tm' gm' hfg hk => by
      obtain ⟨C', nx, cv, h1, h2, h3, h4, h5, h6⟩ := hout
      unfold Oper.wp
      rw [h2]
      subst h1
      rcases h3 with rfl | ⟨rfl, rfl⟩
      · obtain ⟨f1, g1⟩ := hfg C' cv h6 h4
        exact next C' _ _ _ h6 h5 f1 g1 (by rw [Act.put_size]; exact ha) (put_defers _ _ _) (hk _)
      · obtain ⟨f1, g1⟩ := hfg C' undef h6 h4
        exact next C' _ _ _ h6 h5 f1 g1 (by rw [Act.put_size]; exact ha) (put_defers _ _ _) (hk _)
    unfold wpOps
    simp only [hi]
    unfold regK at h
    split at h
    · cases h
    rename_i hcl
    split at h
    · -- no guard
      rename_i hgd
      have hwn : Region.wanted o (yielded ops a.tmps) = true := by simp [Region.wanted, hgd]
      rw [if_pos hwn]
      refine .inl ?_
      split at h
      · rename_i c x y hp
        split at h
        · rename_i v hv
          exact fin (pickD_sound hR hf hg hn0 hp hv) (fun _ => setT tm o.dst v) gm (fun C' cv hst hvr => ⟨(hf.keep hst).setT hd hvr, (hg.keep hst).drop _ _ hcl⟩) (fun _ => h)
        · cases h
      · refine opK_sound hE hc hR (evG_sound hf hg hn0) h fun C' v cv hst hR' hvr hk => ?_
        exact next C' _ _ _ hst hR' ((hf.keep hst).setT hd hvr) ((hg.keep hst).drop _ _ hcl) (by rw [Act.put_size]; exact ha) (put_defers _ _ _) hk
    · -- a guard
      rename_i j want hgd
      split at h
      · cases h
      rename_i t ht
      split at h
      · cases h
      rename_i g hh
      have hiff := holds_sound hf hg _ _ _ _ hh
      have hwi := wanted_iff (a := a) hgd ht
      have hne : ∀ x, o.dst = some x → x ≠ t := fun x hx => wfO_ne hw hgd ht hx
      have hslot : ∀ v, slot (a.put o.dst v) t = slot a t := fun v => slot_put_ne hne
      have skip : ∀ tm' gm', FR C tm' (a.put o.dst undef) → GS C gm' (a.put o.dst undef) → regK E call ops rest tm' gm' C.H K = some r → wpOps P ops Q is (a.put o.dst undef) C.w :=
        fun tm' gm' f1 g1 hk => next C _ tm' gm' (Step.refl C) hR f1 g1 (by rw [Act.put_size]; exact ha) (put_defers _ _ _) hk
      by_cases hgt : g = true
      · -- it is done
        have hst := hiff.1 hgt
        have has : AsOk a ((t, want) :: need gm guardFuel t) := (need_sound hg _ _ _ hst).cons hst
        rw [if_pos (hwi.2 hst)]
        refine .inl ?_
        subst hgt
        split at h
        · rename_i hq
          split at h
          · rename_i ok v d hqd hdst
            rw [br_eq] at h
            simp only [Bool.not_true, Bool.or_false] at h
            split at h
            · rename_i hok
              subst hok
              refine fin (quietD_sound hE hR hf hg has hq hqd) (fun _ => (d, .bot) :: tm) (⟨d, t, want, v⟩ :: gm) (fun C' cv hs hvr => ⟨?_, ?_⟩) (fun _ => h)
              · have := (hf.keep hs.toStepV).setT hd (.bot cv)
                rw [hdst] at this ⊢
                exact this
              · have h1 := (hg.keep hs).drop (some d) cv (by rw [← hdst]; exact hcl)
                rw [hdst] at hslot hd ⊢
                intro x hx
                rcases List.mem_cons.1 hx with rfl | hx
                · refine ⟨fun _ => ?_, fun hk => ?_⟩
                  · show VR C' v (slot (a.put (some d) cv) d)
                    rw [slot_put_self (hd d rfl)]
                    exact hvr
                  · exfalso
                    apply hk
                    show slot (a.put (some d) cv) t = _
                    rw [hslot]; exact hst
                · exact h1 x hx
            · cases h
          · rename_i ok v hqd hdst
            rw [br_eq] at h
            simp only [Bool.not_true, Bool.or_false] at h
            split at h
            · rename_i hok
              subst hok
              refine fin (quietD_sound hE hR hf hg has hq hqd) (fun _ => tm) gm (fun C' cv hs hvr => ?_) (fun _ => h)
              rw [hdst]
              exact ⟨hf.keep hs, hg.keep hs⟩
            · cases h
          · rw [br_eq] at h
            simp at h
        · rw [br_eq, if_pos rfl] at h
          refine opK_sound hE hc hR (evG_sound hf hg has) h fun C' v cv hs hR' hvr hk => ?_
          obtain ⟨f1, g1⟩ := settle_sound (t := t) (b := want) (by rw [hslot]; exact hst) ((hf.keep hs).setT hd hvr) ((hg.keep hs).drop o.dst cv hcl)
          exact next C' _ _ _ hs hR' f1 g1 (by rw [Act.put_size]; exact ha) (put_defers _ _ _) hk
      · -- it is left out
        have hgf : g = false := by simpa using hgt
        subst hgf
        have hst : slot a t ≠ .bool want := fun e => by cases hiff.2 e
        rw [if_neg (fun e => hst (hwi.1 e))]
        have fu : FR C (setT tm o.dst (.tup [])) (a.put o.dst undef) := hf.putUndef
        have gu : GS C gm (a.put o.dst undef) := hg.drop _ _ hcl
        split at h
        · split at h
          · rename_i ok v d hqd hdst
            rw [br_eq] at h
            simp only [Bool.not_false, Bool.or_true, if_true] at h
            refine skip _ _ ?_ ?_ h
            · intro u x hu
              rw [luk_cons] at hu
              split at hu
              · cases hu; exact .bot _
              · rename_i hdu
                rw [hdst]
                show VR C x (slot _ u)
                rw [slot_put hdu]
                exact hf u x hu
            · rw [hdst] at hslot gu ⊢
              intro x hx
              rcases List.mem_cons.1 hx with rfl | hx
              · refine ⟨fun hk => ?_, fun _ => slot_put_undef⟩
                exfalso
                have : slot (a.put (some d) undef) t = .bool want := hk
                rw [hslot] at this
                exact hst this
              · exact gu x hx
          · rename_i ok v hqd hdst
            rw [br_eq] at h
            simp only [Bool.not_false, Bool.or_true, if_true] at h
            rw [hdst]
            rw [hdst] at skip
            exact skip _ _ hf hg h
          · rw [br_eq] at h
            simp only [Bool.false_eq_true, if_false] at h
            exact skip _ _ fu gu h
        · rw [br_eq] at h
          simp only [Bool.false_eq_true, if_false] at h
          split at h
          · rename_i b _ hb
            have h1 := hf.get t
            rw [hb] at h1
            have h2 : slot a t = .bool b := VR_bool_inv h1
            have hbw : slot (a.put o.dst undef) t = .bool (!want) := by
              rw [hslot, h2]
              rw [h2] at hst
              cases b <;> cases want <;> simp_all
            obtain ⟨f1, g1⟩ := settle_sound hbw fu gu
            exact skip _ _ f1 g1 h
          · exact skip _ _ fu gu h

theorem regS_sound {ops : Array Oper} {n : Nat} {call : CallK R} {K : Fr → Heap → Option R} {r : R} {Q : Exit → Act → World → Prop} (hE : EnvOk P E) (hc : CallSound P call) (hwf : ∀ o ∈ ops.toList, wfO ops n o = true) :
    ∀ (l : List Oper) (m : Nat) (is : List Nat) (tm : Fr) (C : Cx) (a : Act), is.map (ops[·]?) = l.map some → a.tmps.size = n → Rel C → FR C tm a → regS E call ops m l tm C.H K = some r →
      (∀ C' a' tm', Step C C' → Rel C' → FR C' tm' a' → a'.tmps.size = n → a'.defers = a.defers → K tm' C'.H = some r → Q .normal a' C'.w) → wpOps P ops Q is a C.w
  | [], m, is, tm, C, a, his, ha, hR, hf, h, hQ => by
    have : is = [] := by simpa using his
    subst this
    exact hQ C a tm (Step.refl C) hR hf ha rfl h
  | o :: rest, m, [], tm, C, a, his, ha, hR, hf, h, hQ => by simp at his
  | o :: rest, m, i :: is, tm, C, a, his, ha, hR, hf, h, hQ => by
    simp only [List.map_cons, List.cons.injEq] at his
    obtain ⟨hi, his⟩ := his
    have hmem : o ∈ ops.toList := by
      have := Array.mem_of_getElem? hi
      exact Array.mem_toList_iff.2 this
    have hw := hwf o hmem
    have hd : ∀ t, o.dst = some t → t < a.tmps.size := fun t ht => by rw [ha]; exact wfO_dst hw ht
    have hev : ∀ x, VR C (ev tm x) (a.eval x) := fun x => by
      have := evG_sound hf (GS.nil C a) (as := []) (fun p hp => by cases hp) x
      cases x <;> exact this
    have next : ∀ (C' : Cx) (a' : Act) (tm' : Fr), Step C C' → Rel C' → FR C' tm' a' → a'.tmps.size = n → a'.defers = a.defers → regS E call ops (m + 1) rest tm' C'.H K = some r → wpOps P ops Q is a' C'.w :=
      fun C' a' tm' hst hR' hf' hs hdf hk => regS_sound hE hc hwf rest (m + 1) is tm' C' a' his hs hR' hf' hk
        (fun C2 a2 tm2 s2 r2 f2 n2 d2 k2 => hQ C2 a2 tm2 (hst.trans s2) r2 f2 n2 (d2.trans hdf) k2)
    have done : opK E call (ev tm) C.H o (fun v H1 => splitG ops m v fun v => regS E call ops (m + 1) rest (setT tm o.dst v) H1 K) = some r → o.wp P a C.w (wpOps P ops Q is) Q := fun h => by
      refine opK_sound hE hc hR hev h fun C' v cv hst hR' hvr hk => ?_
      rw [splitG_eq] at hk
      exact next C' _ _ hst hR' ((hf.keep hst).setT hd hvr) (by rw [Act.put_size]; exact ha) (put_defers _ _ _) hk
    have skip : regS E call ops (m + 1) rest (setT tm o.dst (.tup [])) C.H K = some r → wpOps P ops Q is (a.put o.dst undef) C.w := fun hk =>
      next C _ _ (Step.refl C) hR hf.putUndef (by rw [Act.put_size]; exact ha) (put_defers _ _ _) hk
    unfold wpOps
    simp only [hi]
    unfold regS at h
    split at h
    · rename_i hgd
      have hwn : Region.wanted o (yielded ops a.tmps) = true := by simp [Region.wanted, hgd]
      rw [if_pos hwn]
      exact .inl (done h)
    · rename_i j want hgd
      split at h
      · cases h
      rename_i t ht
      have hwi := wanted_iff (a := a) hgd ht
      have hv := hf.get t
      split at h
      · rename_i b hb
        rw [hb] at hv
        have hsl : slot a t = .bool b := VR_bool_inv hv
        rw [br_eq] at h
        split at h
        · rename_i hbw
          have : b = want := by cases b <;> cases want <;> first | rfl | cases hbw
          rw [if_pos (hwi.2 (by rw [hsl, this]))]
          exact .inl (done h)
        · rename_i hbw
          rw [if_neg (fun e => hbw (by
            have := hwi.1 e
            rw [hsl] at this
            cases this
            cases want <;> rfl))]
          exact skip h
      · rename_i hb
        rw [hb] at hv
        have hsl : ∀ b, slot a t ≠ .bool b := fun b e => by
          have hv : VR C (.tup []) (slot a t) := hv
          rw [e] at hv
          cases hv
        rw [if_neg (fun e => hsl _ (hwi.1 e))]
        exact skip h
      · cases h

end Go.VI
