/-
  Each operation does what the interpreter says: all together.
-/
import Derived.Test.YtjocfknaojbemaaVIOpM
namespace Go.VI

variable {P : Program} {E : Env} {C : Cx} {a : Act} {ρ : Operand → A}

/-- What a region's operation must be like: where it writes there is a slot; it does not write what it is guarded by. -/
def wfO (ops : Array Oper) (n : Nat) (o : Oper) : Bool :=
  (match o.dst with | some d => Nat.ble (d + 1) n | none => true) &&
  (match o.guard with
    | some (j, _) => match dstOf ops j, o.dst with
      | some t, some d => !Nat.beq d t
      | _, _ => true
    | none => true)
def wfC (n : Nat) : Code → Bool
  | .region _ ops _ => ops.toList.all (wfO ops n)
  | .seq a b => wfC n a && wfC n b
  | .cond _ a b => wfC n a && wfC n b
  | .block _ c => wfC n c
  | .loop c => wfC n c
  | _ => true
def wfF (P : Program) (f : FuncId) : Bool := match P.funcs[f]? with
  | some fn => !(fn.name == "runtime.NumGoroutine") && (match fn.body with | some c => wfC fn.ntmps c | none => false)
  | none => false

/-- What an interpreter's table says of types is so. -/
structure EnvOk (P : Program) (E : Env) : Prop where
  prog : E.P = P
  ti : ∀ t i, E.ti t = some i → tiOf P t = some i
  ok : ∀ f, E.ok f = true → wfF P f = true
  cmp : ∀ t ks, E.cmp t = some ks → plainCmp P t = some ks
  key : KeyOk P E.key

theorem op_convert_int {o : Oper} {s d : TypeId} {x : Operand} {is id : TI} {j k : IntKind} {n : Int} (hR : Rel C) (hρ : ∀ x, VR C (ρ x) (a.eval x)) (ho : o.op = .convert s d x) (hs : tiOf P s = some is) (hd : tiOf P d = some id)
    (hk : id.kind = .int j) (hx : ρ x = .int k n) : OutR P a o C (.int j (wrapK j n)) C.H := by
  obtain ⟨_, ds, _, hus, _, _, _, _, _⟩ := tiOf_some hs
  obtain ⟨_, dd, _, hud, hkd, _, _, _, _⟩ := tiOf_some hd
  rw [hk] at hkd
  have := kindOf_int hkd
  subst this
  have h1 := hρ x
  rw [hx] at h1
  generalize hax : a.eval x = ax at h1
  cases h1
  rw [wrapK_eq]
  refine OutR.same (cv := .int j (j.wrap n)) hR ?_ (.int _ _)
  simp only [execOp, ho, hax, convert, Sem.run_bind, run_underlying hus, run_underlying hud, Result.andThen_ok, Conv.intToInt, Sem.run_pure]

theorem op_convert_str {o : Oper} {s d : TypeId} {x : Operand} {is id : TI} {l : Str} (hR : Rel C) (hρ : ∀ x, VR C (ρ x) (a.eval x)) (ho : o.op = .convert s d x) (hs : tiOf P s = some is) (hd : tiOf P d = some id)
    (hks : is.kind = .str) (hk : id.kind = .str) (hx : ρ x = .str l) : OutR P a o C (.str l) C.H := by
  obtain ⟨_, ds, _, hus, hkk, _, _, _, _⟩ := tiOf_some hs
  obtain ⟨_, dd, _, hud, hkd, _, _, _, _⟩ := tiOf_some hd
  rw [hk] at hkd
  rw [hks] at hkk
  have := kindOf_str hkd
  subst this
  have := kindOf_str hkk
  subst this
  have h1 := hρ x
  rw [hx] at h1
  generalize hax : a.eval x = ax at h1
  cases h1 with
  | str _ s hs =>
  refine OutR.same (cv := .string s) hR ?_ (.str _ _ hs)
  simp only [execOp, ho, hax, convert, Sem.run_bind, run_underlying hus, run_underlying hud, Result.andThen_ok, Sem.run_pure]

theorem opD_sound {o : Oper} {nm : Nat} {v : A} {H1 : Heap} (hE : EnvOk P E) (hR : Rel C) (hρ : ∀ x, VR C (ρ x) (a.eval x)) (hn : C.H.next ≤ nm) (h : opD E ρ C.H nm o = some (true, v, H1)) : OutR P a o C v H1 := by
  have hti := hE.ti
  unfold opD at h
  split at h
  · rename_i x hop; cases h; exact op_move hR hρ (.inl hop)
  · rename_i x hop; cases h; exact op_move hR hρ (.inr hop)
  · -- pick
    rename_i c x y hop
    split at h
    · rename_i t hc
      cases h
      have hc' := hρ c
      rw [hc] at hc'
      generalize hac : a.eval c = ac at hc'
      cases hc'
      exact op_pick hR hop hac (fun _ => hρ x) (fun _ => hρ y)
    · cases h
  · -- alloc
    rename_i e hop
    split at h
    · rename_i i hi
      split at h
      · rename_i cs hz; cases h; exact op_alloc hR hn hop (hti _ _ hi) hz
      · cases h
    · cases h
  · -- box
    rename_i e x hop
    split at h
    · rename_i cs hz; cases h; exact op_box hR hn hρ hop hz
    · cases h
  · -- build
    rename_i t parts hop
    split at h
    · rename_i hi
      split at h
      · rename_i zc hz
        split at h
        · rename_i cs hf; cases h; exact op_build_struct hR hρ hop (hti _ _ hi) rfl hz hf
        · cases h
      · cases h
    · rename_i hi
      split at h
      · rename_i ie zc hie hz
        split at h
        · rename_i cs hf; cases h; exact op_build_arr hR hρ hop (hti _ _ hi) rfl (hti _ _ hie) hz hf
        · cases h
      · cases h
    · cases h
  · -- buildSlice
    rename_i t len parts hop
    split at h
    · rename_i hi
      split at h
      · rename_i ie hie
        split at h
        · cases h
        · rename_i z hz
          split at h
          · rename_i hc
            obtain ⟨hc1, hc2, hc3⟩ := hc
            split at h
            · rename_i cs hf
              split at h
              · rename_i ty hty
                split at h
                · split at h
                  · rename_i xs H2 hd
                    cases h
                    exact op_buildSlice hR hn hρ hop (hti _ _ hi) rfl (hti _ _ hie) hz hc2 (Nat.le_of_ble_eq_true hc1) hc3 hf hd
                  · cases h
                · cases h
              · cases h
            · cases h
          · cases h
      · cases h
    · cases h
  · -- load
    rename_i t x hop
    split at h
    · rename_i i hi
      split at h
      · rename_i cs hc
        obtain ⟨u, hu, he⟩ := Option.map_eq_some_iff.1 h
        cases he
        exact op_load hR hρ hop (hti _ _ hi) hc hu
      · cases h
    · cases h
  · -- store
    rename_i t x y hop
    split at h
    · rename_i i vs hi hy
      split at h
      · rename_i hl
        split at h
        · rename_i H2 hst
          cases h
          unfold storeAt at hst
          split at hst
          · rename_i n of hx
            split at hst
            · rename_i cs hg
              split at hst
              · rename_i hle; cases hst; exact op_store_ptr hR hρ hop (hti _ _ hi) hy hl hx hg hle
              · cases hst
            · cases hst
          · rename_i n g j of hx
            split at hst
            · rename_i ty xs g' hg
              split at hst
              · rename_i hgg
                subst hgg
                split at hst
                · rename_i hle
                  split at hst
                  · rename_i z H3 hd
                    split at hst
                    · rename_i hg1
                      cases hst
                      exact op_store_rptr hR hρ hop (hti _ _ hi) hy hl hx hg hle hd hg1 rfl
                    · cases hst
                  · cases hst
                · cases hst
              · cases hst
            · cases hst
          · cases hst
        · cases h
      · cases h
    · cases h
  · -- nilCheck
    rename_i x hop
    split at h
    · rename_i n of hx; cases h; exact op_nilCheck hR hρ hop (by rw [hx])
    · rename_i cs hx; cases h; exact op_nilCheck hR hρ hop (by rw [hx])
    · rename_i f b c hx; cases h; exact op_nilCheck hR hρ hop (by rw [hx])
    · cases h
  · -- binOp
    rename_i op t x y t2 hop
    split at h
    · rename_i i hi
      split at h
      · rename_i xs ys hx hy
        split at h
        · rename_i hag
          split at h
          · rename_i ks hk
            split at h
            · rename_i b he
              cases h
              have := op_binOp_agg hR hρ hop (hti _ _ hi) hag hx hy (hE.cmp _ _ hk) he (.inl rfl)
              simpa using this
            · rename_i b he
              cases h
              have := op_binOp_agg hR hρ hop (hti _ _ hi) hag hx hy (hE.cmp _ _ hk) he (.inr rfl)
              simpa using this
            · cases h
          · cases h
        · cases h
      · obtain ⟨r, hr, he⟩ := Option.map_eq_some_iff.1 h
        obtain ⟨r1, r2⟩ := r
        simp only [Prod.mk.injEq] at he
        obtain ⟨rfl, rfl, rfl⟩ := he
        exact op_binOp hR hρ hop (hti _ _ hi) hr
    · cases h
  · -- unOp
    rename_i op t x hop
    split at h
    · rename_i j n hx; cases h; exact op_neg hR hρ hop hx
    · rename_i j n hx; cases h; exact op_xor hR hρ hop hx
    · rename_i b hx; cases h; exact op_not hR hρ hop hx
    · cases h
  · -- convert
    rename_i s d x hop
    split at h
    · rename_i hs hd hx
      cases h
      exact op_convert_int hR hρ hop (hti _ _ hs) (hti _ _ hd) rfl hx
    · rename_i hs hd hx
      cases h
      exact op_convert_str hR hρ hop (hti _ _ hs) (hti _ _ hd) rfl rfl hx
    · cases h
  · -- makeFunc
    rename_i fn f c hop; cases h; exact op_makeFunc hR hρ hop
  · -- makeMap
    rename_i t r hop
    split at h
    · rename_i hi
      split at h
      · rename_i hr
        split at h
        · rename_i κ ν _ _
          cases h; exact op_makeMap hR hn hρ hop (hti _ _ hi) rfl (.inr ⟨_, _, hr⟩) (.inl ⟨_, _, _, _, rfl⟩)
        · cases h; exact op_makeMap hR hn hρ hop (hti _ _ hi) rfl (.inr ⟨_, _, hr⟩) (.inr rfl)
      · rename_i hr
        split at h
        · cases h; exact op_makeMap hR hn hρ hop (hti _ _ hi) rfl (.inl hr) (.inl ⟨_, _, _, _, rfl⟩)
        · cases h; exact op_makeMap hR hn hρ hop (hti _ _ hi) rfl (.inl hr) (.inr rfl)
      · cases h
    · cases h
  · -- makeSlice
    rename_i t l c hop
    split at h
    · rename_i hti1
      split at h
      · rename_i i ty kn n km m hi hty hl hm
        split at h
        · rename_i zc hz
          split at h
          · rename_i hcond
            split at h
            · rename_i z r H' hd
              simp only [Option.some.injEq, Prod.mk.injEq] at h
              obtain ⟨h1, rfl, rfl⟩ := h
              exact op_makeSlice hR hn hρ hop (hti _ _ hti1) rfl (hti _ _ hi) hz hcond.1 hcond.2.1 hcond.2.2.1 hcond.2.2.2 hd hl hm h1
            · cases h
          · cases h
        · cases h
      · cases h
    · cases h
  · -- slice
    rename_i t x lo hi mx hop
    split at h
    · cases h
    · split at h
      · rename_i hti1
        split at h
        · rename_i s hx
          obtain ⟨r, hr, he⟩ := Option.map_eq_some_iff.1 h
          obtain ⟨r1, r2, r3⟩ := r
          simp only [Prod.mk.injEq] at he
          obtain ⟨rfl, rfl, rfl⟩ := he
          exact op_slice_str hR hρ hop (hti _ _ hti1) rfl hx hr
        · cases h
      · rename_i hti1
        split at h
        · rename_i j hj
          split at h
          · rename_i hx
            obtain ⟨r, hr, he⟩ := Option.map_eq_some_iff.1 h
            obtain ⟨r1, r2, r3⟩ := r
            simp only [Prod.mk.injEq] at he
            obtain ⟨rfl, rfl, rfl⟩ := he
            exact op_slice_nils hR hρ hop (hti _ _ hti1) rfl (hti _ _ hj) hx hr
          · rename_i ty xs hx
            split at h
            · rename_i hsz
              obtain ⟨r, hr, he⟩ := Option.map_eq_some_iff.1 h
              obtain ⟨r1, r2, r3⟩ := r
              simp only [Prod.mk.injEq] at he
              obtain ⟨rfl, rfl, rfl⟩ := he
              exact op_slice_sl hR hρ hop (hti _ _ hti1) rfl (hti _ _ hj) hx hsz hr
            · cases h
          · rename_i n g sub hx
            split at h
            · rename_i rw ty xs g' hg
              split at h
              · rename_i hc
                obtain ⟨rfl, hsz⟩ := hc
                obtain ⟨r, hr, he⟩ := Option.map_eq_some_iff.1 h
                obtain ⟨r1, r2, r3⟩ := r
                simp only [Prod.mk.injEq] at he
                obtain ⟨rfl, rfl, rfl⟩ := he
                exact op_slice_row hR hρ hop (hti _ _ hti1) rfl (hti _ _ hj) hx hg hsz hr
              · cases h
            · cases h
          · cases h
        · cases h
      · cases h
  · -- fieldAddr
    rename_i s x f hop
    split at h
    · rename_i hi
      split at h
      · rename_i off sz ag hf
        split at h
        · cases h
        · rename_i hs
          split at h
          · rename_i n of hx; cases h; exact op_fieldAddr hR hρ hop (hti _ _ hi) rfl hf hs (.inl ⟨_, _, hx, rfl⟩)
          · rename_i cs hx
            split at h
            · rename_i hle; cases h; exact op_fieldAddr hR hρ hop (hti _ _ hi) rfl hf hs (.inr (.inl ⟨_, hx, rfl, hle⟩))
            · cases h
          · rename_i n g j of hx
            split at h
            · rename_i blk hg
              split at h
              · rename_i hgg; cases h; exact op_fieldAddr hR hρ hop (hti _ _ hi) rfl hf hs (.inr (.inr ⟨_, _, _, _, _, hx, rfl, hg, hgg⟩))
              · cases h
            · cases h
          · cases h
      · cases h
    · cases h
  · -- field
    rename_i t x f hop
    split at h
    · rename_i hi
      split at h
      · rename_i off sz ag cs hf hx
        split at h
        · rename_i hle
          obtain ⟨u, hu, he⟩ := Option.map_eq_some_iff.1 h
          cases he
          exact op_field hR hρ hop (hti _ _ hi) rfl hf hx hle hu
        · cases h
      · cases h
    · cases h
  · -- indexAddr
    rename_i t x ix hop
    split at h
    · rename_i hi hix
      split at h
      · rename_i j m of hj hx
        simp only [Option.some.injEq, Prod.mk.injEq] at h
        obtain ⟨h0, rfl, rfl⟩ := h
        exact op_indexAddr_arr hR hρ hop (hti _ _ hi) rfl (hti _ _ hj) hx hix h0
      · cases h
    · rename_i hi hix
      split at h
      · rename_i j hj
        split at h
        · rename_i ty xs hx
          split at h
          · rename_i hsz
            simp only [Option.some.injEq, Prod.mk.injEq] at h
            obtain ⟨h0, rfl, rfl⟩ := h
            exact op_indexAddr_sl hR hρ hop (hti _ _ hi) rfl (hti _ _ hj) hx hix hsz h0
          · cases h
        · rename_i n g sub hx
          split at h
          · rename_i rw ty xs g' hg
            split at h
            · rename_i hc
              obtain ⟨rfl, hsz⟩ := hc
              simp only [Option.some.injEq, Prod.mk.injEq] at h
              obtain ⟨h0, rfl, rfl⟩ := h
              exact op_indexAddr_row hR hρ hop (hti _ _ hi) rfl (hti _ _ hj) hx hg hix hsz h0
            · cases h
          · rename_i sz cs g' hg
            split at h
            · rename_i hc
              obtain ⟨rfl, hsz⟩ := hc
              split at h
              · simp only [Option.some.injEq, Prod.mk.injEq] at h
                obtain ⟨h0, rfl, rfl⟩ := h
                exact op_indexAddr_urow hR hρ hop (hti _ _ hi) rfl (hti _ _ hj) hx hg hix hsz h0
              · cases h
            · cases h
          · cases h
        · cases h
      · cases h
    · cases h
  · -- index
    rename_i t x ix hop
    split at h
    · rename_i hi hx hix
      simp only [Option.some.injEq, Prod.mk.injEq] at h
      obtain ⟨h0, rfl, rfl⟩ := h
      exact op_index_str hR hρ hop (hti _ _ hi) rfl hx hix h0
    · rename_i hi hx hix
      split at h
      · rename_i j ty hj hty
        split at h
        · rename_i hsz
          split at h
          · rename_i xs H2 hd
            obtain ⟨u, hu, he⟩ := Option.map_eq_some_iff.1 h
            simp only [Prod.mk.injEq] at he
            obtain ⟨h0, rfl, rfl⟩ := he
            exact op_index_arr hR hρ hop (hti _ _ hi) rfl (hti _ _ hj) hx hix hsz hd h0 hu
          · cases h
        · cases h
      · cases h
    · cases h
  · -- lookup
    rename_i t x ix ok hop
    split at h
    · rename_i hi
      split at h
      · rename_i i hb
        obtain ⟨u, hu, he⟩ := Option.map_eq_some_iff.1 h
        cases he
        exact op_lookup hE.key hR hρ hop (hti _ _ hi) rfl (hti _ _ hb) hu
      · cases h
    · cases h
  · -- mapUpdate
    rename_i t m key x hop
    split at h
    · rename_i hi
      have h' := h
      unfold putD at h'
      split at h'
      · rename_i n hm
        split at h'
        · rename_i hg; exact op_put hE.key hR hρ (.inl hop) (hti _ _ hi) rfl hm hg h
        · cases h'
      · cases h'
    · cases h
  · -- insert
    rename_i t m key x hop
    split at h
    · rename_i hi
      have h' := h
      unfold putD at h'
      split at h'
      · rename_i n hm
        split at h'
        · rename_i hg; exact op_put hE.key hR hρ (.inr hop) (hti _ _ hi) rfl hm hg h
        · cases h'
      · cases h'
    · cases h
  · -- extract
    rename_i t i hop
    split at h
    · rename_i vs hx
      split at h
      · rename_i u hu; cases h; exact op_extract hR hρ hop hx hu
      · cases h
    · cases h
  · -- built in
    rename_i c hop
    split at h
    · rename_i b hc
      unfold builtinD at h
      split at h
      · rename_i t r x hat hargs
        split at h
        · rename_i i hi
          split at h
          · rename_i hk
            obtain ⟨u, hu, he⟩ := Option.map_eq_some_iff.1 h
            cases he
            exact op_len hR hρ hop hc hat hargs (hti _ _ hi) hk hu
          · cases h
        · cases h
      · rename_i t u x y hat hargs
        unfold appendD at h
        split at h
        · rename_i ht1 ht2
          split at h
          · rename_i i ty hi hty
            split at h
            · rename_i hcond
              split at h
              · cases h
              · rename_i ys hys
                split at h
                · simp only [Option.some.injEq, Prod.mk.injEq] at h
                  obtain ⟨h1, rfl, rfl⟩ := h
                  exact op_append_nil hR hn hρ hop hc hat hargs (hti _ _ ht1) rfl (hti _ _ ht2) rfl (hti _ _ hi) hcond.1 hcond.2.2.1 hcond.2.2.2 hys h1
                · split at h
                  · rename_i hg
                    split at h
                    · rename_i htt
                      subst htt
                      split at h
                      · rename_i hgg
                        subst hgg
                        simp only [Option.some.injEq, Prod.mk.injEq] at h
                        obtain ⟨h1, rfl, rfl⟩ := h
                        exact op_append_row hR hρ hop hc hat hargs hg (hti _ _ ht1) rfl (hti _ _ ht2) rfl (hti _ _ hi) hcond.1 hcond.2.2.1 hcond.2.2.2 hys h1
                      · cases h
                    · cases h
                  · cases h
                · cases h
            · cases h
          · cases h
        · cases h
      · obtain ⟨u, hu, he⟩ := Option.map_eq_some_iff.1 h
        cases he
        exact op_minmax (mx := true) hR hρ hop hc hu
      · obtain ⟨u, hu, he⟩ := Option.map_eq_some_iff.1 h
        cases he
        exact op_minmax (mx := false) hR hρ hop hc hu
      · cases h
    · cases h
  · cases h

end Go.VI
