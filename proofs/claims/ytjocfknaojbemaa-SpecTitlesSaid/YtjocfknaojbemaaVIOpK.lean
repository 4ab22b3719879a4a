/-
  Each operation does what the interpreter says: part K (maps made; what is built in).
-/
import Derived.Test.YtjocfknaojbemaaVIOpJ
import Derived.Laws.Small
namespace Go.VI

variable {P : Program} {E : Env} {C : Cx} {a : Act} {ρ : Operand → A}

theorem map_out {o : Oper} {nm : Nat} {blk : Blk} (hR : Rel C) (hn : C.H.next ≤ nm) (hb : BlkR (C.new nm blk (.map #[] 0) none) nm blk)
    (hr : (execOp a.eval o).run P C.w = .ok (.value (.map (some C.w.heap.size))) (C.w.alloc (.map #[] 0))) : OutR P a o C (.map nm) (C.H.put nm blk) := by
  have he : ∀ b cp, (none : Option (Nat × Nat)) = some (b, cp) → b = C.w.heap.size := fun _ _ h => by cases h
  exact ⟨C.new nm blk (.map #[] 0) none, _, _, rfl, hr, .inl rfl, .map _ _ (by simp [Cx.new]), Cx.new_rel hR hn he hb, Cx.new_step hR hn blk (.map #[] 0) none he⟩

theorem op_makeMap {o : Oper} {t nm : Nat} {r : Option Operand} {i : TI} {ka kb : Nat} {blk : Blk} (hR : Rel C) (hn : C.H.next ≤ nm) (hρ : ∀ x, VR C (ρ x) (a.eval x)) (ho : o.op = .makeMap t r)
    (hi : tiOf P t = some i) (hk : i.kind = .map ka kb) (hr : optEv ρ r = none ∨ ∃ k n, optEv ρ r = some (.int k n)) (hblk : (∃ ga gb κ ν, blk = .tmap true ga gb κ ν []) ∨ blk = .amap true []) : OutR P a o C (.map nm) (C.H.put nm blk) := by
  obtain ⟨ii, d, _, hu, hkd, _, _, _, _⟩ := tiOf_some hi
  rw [hk] at hkd
  have := kindOf_map hkd
  subst this
  have hM : ∀ (C : Cx) ga gb, MapR C ga gb [] #[] 0 := fun C ga gb => ⟨⟨[], .refl _, rfl, fun i h => absurd h (by simp)⟩, by simp, fun e he => by simp at he⟩
  refine map_out hR hn ?_ ?_
  · rcases hblk with ⟨ga, gb, κ, ν, rfl⟩ | rfl
    · exact ⟨C.w.heap.size, #[], 0, by simp [Cx.new], heap_alloc_new _ _, hM _ _ _, List.Pairwise.nil⟩
    · exact ⟨C.w.heap.size, #[], 0, by simp [Cx.new], heap_alloc_new _ _, false, false, hM _ _ _⟩
  · cases r with
    | none => simp only [execOp, ho, Option.map_none, Instr.makeMap, Sem.run_bind, Sem.run_pure, Result.andThen_ok, run_newObj]; rfl
    | some x =>
      rcases hr with hr | ⟨k, n, hr⟩
      · cases hr
      · simp only [optEv, Option.some.injEq] at hr
        have hx := hρ x
        rw [hr] at hx
        generalize hax : a.eval x = ax at hx
        cases hx
        simp only [execOp, ho, hax, Option.map_some, Instr.makeMap, Sem.run_bind, Sem.run_pure, Result.andThen_ok, run_underlying hu, asInt, run_asIntOf, run_newObj]; rfl

theorem exec_builtin {o : Oper} {c : Call} {b : Builtin} (ho : o.op = .call c) (hc : c.callee = .builtin b) (w : World) :
    (execOp a.eval o).run P w = (builtin b c.argTypes o.type (c.args.map fun | .const _ => true | _ => false) (c.args.map a.eval)).run P w := by
  simp only [execOp, ho, Go.resolve, hc, Sem.run_bind, Sem.run_pure, Result.andThen_ok, invoke]; rfl

/-- The arguments, one by one. -/
theorem args_one {c : Call} {x : A} (hρ : ∀ x, VR C (ρ x) (a.eval x)) (h : c.args.toList.map ρ = [x]) : ∃ v, c.args.map a.eval = #[v] ∧ VR C x v := by
  obtain ⟨l, hl⟩ : ∃ l, l = c.args.toList := ⟨_, rfl⟩
  rw [← hl] at h
  match l, h, hl with
  | [y], h, hl =>
    simp only [List.map_cons, List.map_nil, List.cons.injEq, and_true] at h
    refine ⟨a.eval y, ?_, h ▸ hρ y⟩
    apply Array.ext'
    simp [← hl]
theorem args_two {c : Call} {x y : A} (hρ : ∀ x, VR C (ρ x) (a.eval x)) (h : c.args.toList.map ρ = [x, y]) : ∃ v u, c.args.map a.eval = #[v, u] ∧ VR C x v ∧ VR C y u := by
  obtain ⟨l, hl⟩ : ∃ l, l = c.args.toList := ⟨_, rfl⟩
  rw [← hl] at h
  match l, h, hl with
  | [z, z'], h, hl =>
    simp only [List.map_cons, List.map_nil, List.cons.injEq, and_true] at h
    refine ⟨a.eval z, a.eval z', ?_, h.1 ▸ hρ z, h.2 ▸ hρ z'⟩
    apply Array.ext'
    simp [← hl]

theorem op_len {o : Oper} {c : Call} {t : Nat} {r : List Nat} {x v : A} {i : TI} (hR : Rel C) (hρ : ∀ x, VR C (ρ x) (a.eval x)) (ho : o.op = .call c) (hc : c.callee = .builtin .len) (hat : c.argTypes.toList = t :: r)
    (hargs : c.args.toList.map ρ = [x]) (hi : tiOf P t = some i) (hk : lenK i.kind x = true) (h : lenD C.H x = some v) : OutR P a o C v C.H := by
  obtain ⟨ii, d, _, hu, hkd, _, _, _, _⟩ := tiOf_some hi
  obtain ⟨vx, hvx, hx⟩ := args_one hρ hargs
  have hat0 : c.argTypes[0]? = some t := by rw [← Array.getElem?_toList, hat]; rfl
  rw [hkd] at hk
  have key : ∀ cv : Value, (Builtin.len_ c.argTypes o.type #[vx]).run P C.w = .ok cv C.w → VR C v cv → OutR P a o C v C.H := fun cv h1 h2 => by
    refine OutR.same hR ?_ h2
    rw [exec_builtin ho hc, hvx]
    simp only [builtin, Sem.run_bind, h1, Result.andThen_ok, Sem.run_pure]
  cases hx with
  | bot => cases h
  | bool => cases h
  | int => cases h
  | nilp => cases h
  | nilf => cases h
  | nili => cases h
  | ptr => cases h
  | rptr => cases h
  | iter => cases h
  | func => cases h
  | iface => cases h
  | iaddr => cases h
  | agg => cases h
  | tup => cases h
  | str l s hs =>
    cases h
    have hd : d = .string := by
      generalize hkk : kindOf P d = kk at hk
      cases kk <;> first | (cases hk; done) | skip
      exact kindOf_str hkk.symm
    subst hd
    refine key (goInt s.size) ?_ ?_
    · simp [Builtin.len_, hat0, run_underlying hu, Sem.run_pure]
    · rw [(str_toList hs).2]; exact .int _ _
  | nils =>
    cases h
    have hd : ∃ e, d = .slice e := by
      generalize hkk : kindOf P d = kk at hk
      cases kk <;> first | (cases hk; done) | skip
      exact ⟨_, kindOf_slice hkk.symm⟩
    obtain ⟨e, rfl⟩ := hd
    refine key (goInt (0 : Nat)) ?_ (.int _ _)
    simp [Builtin.len_, hat0, run_underlying hu, Sem.run_pure]
  | nilm =>
    cases h
    have hd : ∃ e f, d = .map e f := by
      generalize hkk : kindOf P d = kk at hk
      cases kk <;> first | (cases hk; done) | skip
      exact ⟨_, _, kindOf_map hkk.symm⟩
    obtain ⟨e, f, rfl⟩ := hd
    refine key (goInt (0 : Nat)) ?_ (.int _ _)
    simp [Builtin.len_, hat0, run_underlying hu, Sem.run_pure]
  | sl0 ty ad cap =>
    cases h
    have hd : ∃ e, d = .slice e := by
      generalize hkk : kindOf P d = kk at hk
      cases kk <;> first | (cases hk; done) | skip
      exact ⟨_, kindOf_slice hkk.symm⟩
    obtain ⟨e, rfl⟩ := hd
    refine key (goInt (0 : Nat)) ?_ (.int _ _)
    simp [Builtin.len_, hat0, run_underlying hu, Sem.run_pure]
  | sl ty xs b of cap c1 e1 fr _ _ _ _ _ _ =>
    cases h
    have hd : ∃ e, d = .slice e := by
      generalize hkk : kindOf P d = kk at hk
      cases kk <;> first | (cases hk; done) | skip
      exact ⟨_, kindOf_slice hkk.symm⟩
    obtain ⟨e, rfl⟩ := hd
    refine key (goInt xs.length) ?_ (.int _ _)
    simp [Builtin.len_, hat0, run_underlying hu, Sem.run_pure]
  | hsl n g sub ad len cap hn hcap hle hh =>
    have hd : ∃ e, d = .slice e := by
      generalize hkk : kindOf P d = kk at hk
      cases kk <;> first | (cases hk; done) | skip
      exact ⟨_, kindOf_slice hkk.symm⟩
    obtain ⟨e, rfl⟩ := hd
    refine key (goInt len) ?_ ?_
    · simp [Builtin.len_, hat0, run_underlying hu, Sem.run_pure]
    · simp only [lenD] at h
      split at h
      · rename_i rw ty xs g' hg
        split at h
        · rename_i hgg
          subst hgg
          cases h
          obtain ⟨h1, _⟩ := hh _ hg rfl
          rw [h1]
          cases sub <;> exact .int _ _
        · cases h
      · rename_i rw sz cs g' hg
        split at h
        · rename_i hgg
          subst hgg
          split at h
          · cases h
            obtain ⟨h1, _⟩ := hh _ hg rfl
            rw [h1]
            exact .int _ _
          · cases h
        · cases h
      · cases h
  | map n b hb =>
    have hd : ∃ e f, d = .map e f := by
      generalize hkk : kindOf P d = kk at hk
      cases kk <;> first | (cases hk; done) | skip
      exact ⟨_, _, kindOf_map hkk.symm⟩
    obtain ⟨e, f, rfl⟩ := hd
    simp only [lenD] at h
    split at h
    · rename_i rw ga gb κ ν es hg
      cases h
      obtain ⟨b', me, clock, hb', hw, hM, _⟩ := hR.blocks n _ hg
      rw [hb] at hb'
      cases hb'
      obtain ⟨⟨l, h1, h2, _⟩, _, _⟩ := hM
      have hsz : me.size = es.length := by rw [← h2, h1.length_eq]; simp
      refine key (goInt me.size) ?_ (by rw [hsz]; exact .int _ _)
      simp [Builtin.len_, hat0, run_underlying hu, Sem.run_pure, run_getObj_at hw]
    · rename_i rw es hg
      cases h
      obtain ⟨b', me, clock, hb', hw, ga, gb, hM⟩ := hR.blocks n _ hg
      rw [hb] at hb'
      cases hb'
      obtain ⟨⟨l, h1, h2, _⟩, _, _⟩ := hM
      have hsz : me.size = es.length := by rw [← h2, h1.length_eq]; simp
      refine key (goInt me.size) ?_ (by rw [hsz]; exact .int _ _)
      simp [Builtin.len_, hat0, run_underlying hu, Sem.run_pure, run_getObj_at hw]
    · cases h

theorem fold_max : ∀ (l : List A) (c : List Value) (x v : A) (cx : Value), l.length = c.length → (∀ i, i < l.length → VR C (l.getD i .bot) (c.getD i undef)) → VR C x cx → foldA1 maxA x l = some v →
    ∃ cv, (c.foldlM Builtin.max2 cx).run P C.w = .ok cv C.w ∧ VR C v cv
  | [], [], x, v, cx, _, _, hx, h => by cases h; exact ⟨cx, rfl, hx⟩
  | y :: l, u :: c, x, v, cx, hl, hv, hx, h => by
    simp only [foldA1] at h
    split at h
    · rename_i z hz
      have hy : VR C y u := hv 0 (by simp)
      unfold maxA at hz
      split at hz
      · rename_i k p j q
        cases hz
        cases hx
        cases hy
        · rw [br_eq, ilt_eq] at h
          have : VR C (.int k (if decide (p < q) = true then q else p)) (.int k (if q > p then q else p)) := by
            by_cases hpq : p < q
            · simp only [hpq, decide_true, if_true]; exact .int _ _
            · simp only [hpq, decide_false, if_false, Bool.false_eq_true]; exact .int _ _
          obtain ⟨cv, h1, h2⟩ := fold_max l c _ v _ (by simpa using hl) (fun i hi => hv (i + 1) (by simpa using hi)) this h
          refine ⟨cv, ?_, h2⟩
          simp only [List.foldlM_cons, Builtin.max2, Sem.run_bind, Sem.run_pure, Result.andThen_ok]
          exact h1
      · cases hz
    · cases h

theorem fold_min : ∀ (l : List A) (c : List Value) (x v : A) (cx : Value), l.length = c.length → (∀ i, i < l.length → VR C (l.getD i .bot) (c.getD i undef)) → VR C x cx → foldA1 minA x l = some v →
    ∃ cv, (c.foldlM Builtin.min2 cx).run P C.w = .ok cv C.w ∧ VR C v cv
  | [], [], x, v, cx, _, _, hx, h => by cases h; exact ⟨cx, rfl, hx⟩
  | y :: l, u :: c, x, v, cx, hl, hv, hx, h => by
    simp only [foldA1] at h
    split at h
    · rename_i z hz
      have hy : VR C y u := hv 0 (by simp)
      unfold minA at hz
      split at hz
      · rename_i k p j q
        cases hz
        cases hx
        cases hy
        · rw [br_eq, ilt_eq] at h
          have : VR C (.int k (if decide (q < p) = true then q else p)) (.int k (if q < p then q else p)) := by
            by_cases hpq : q < p
            · simp only [hpq, decide_true, if_true]; exact .int _ _
            · simp only [hpq, decide_false, if_false, Bool.false_eq_true]; exact .int _ _
          obtain ⟨cv, h1, h2⟩ := fold_min l c _ v _ (by simpa using hl) (fun i hi => hv (i + 1) (by simpa using hi)) this h
          refine ⟨cv, ?_, h2⟩
          simp only [List.foldlM_cons, Builtin.min2, Sem.run_bind, Sem.run_pure, Result.andThen_ok]
          exact h1
      · cases hz
    · cases h

theorem op_minmax {o : Oper} {c : Call} {v : A} {mx : Bool} (hR : Rel C) (hρ : ∀ x, VR C (ρ x) (a.eval x)) (ho : o.op = .call c) (hc : c.callee = .builtin (if mx then .max else .min))
    (h : foldA (if mx then maxA else minA) (c.args.toList.map ρ) = some v) : OutR P a o C v C.H := by
  obtain ⟨l, hl⟩ : ∃ l, l = c.args.toList := ⟨_, rfl⟩
  rw [← hl] at h
  cases l with
  | nil => cases h
  | cons x r =>
    have hargs : (c.args.map a.eval).toList = a.eval x :: r.map a.eval := by simp [← hl]
    simp only [List.map_cons, foldA] at h
    have hvr : ∀ i, i < (r.map ρ).length → VR C ((r.map ρ).getD i .bot) ((r.map a.eval).getD i undef) := fun i hi => by
      simp only [List.length_map] at hi
      simp only [List.getD_eq_getElem?_getD, List.getElem?_map, List.getElem?_eq_getElem hi, Option.map_some, Option.getD_some]
      exact hρ _
    cases mx with
    | true =>
      simp only [if_true] at h hc
      obtain ⟨cv, h1, h2⟩ := fold_max (P := P) _ (r.map a.eval) _ v _ (by simp) hvr (hρ x) h
      refine OutR.same hR ?_ h2
      rw [exec_builtin ho hc]
      simp only [builtin, Builtin.max_, hargs, Sem.run_bind, h1, Result.andThen_ok, Sem.run_pure]
    | false =>
      simp only [Bool.false_eq_true, if_false] at h hc
      obtain ⟨cv, h1, h2⟩ := fold_min (P := P) _ (r.map a.eval) _ v _ (by simp) hvr (hρ x) h
      refine OutR.same hR ?_ h2
      rw [exec_builtin ho hc]
      simp only [builtin, Builtin.min_, hargs, Sem.run_bind, h1, Result.andThen_ok, Sem.run_pure]

end Go.VI
