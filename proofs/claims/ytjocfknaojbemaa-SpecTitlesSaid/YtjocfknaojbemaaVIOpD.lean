/-
  Each operation does what the interpreter says: part D (numbers, texts, addresses, slices: the operations themselves).
-/
import Derived.Test.YtjocfknaojbemaaVIOpC
namespace Go.VI

variable {P : Program} {E : Env} {C : Cx} {a : Act} {ρ : Operand → A}

theorem eqGuard_plain {op : BinOp} {t : TypeId} {x y : Operand} {u v : Value} {w : World} (hu : u ≠ .nilIface) (hv : ∀ c, u ≠ .agg c) : (eqGuard op t x y u v).run P w = .ok () w := by
  unfold eqGuard
  cases op <;> simp only [Bool.not_true, Bool.not_false, if_true, if_false, Sem.run_pure, Bool.false_eq_true] <;> first | rfl | skip
  all_goals
    split
    · rename_i h1 h2
      first | exact absurd rfl hu | exact absurd h1 hu
    · rename_i c1 c2
      exact absurd rfl (hv _)
    · rfl

theorem binD_shape {kd : TK} {op : BinOp} {x y v : A} {ok : Bool} (h : binD kd op x y = some (ok, v)) : (∃ k n, x = .int k n) ∨ (∃ s, x = .str s) ∨ (∃ b, x = .bool b) ∨ x = .nilp ∨ (∃ n o, x = .ptr n o) ∨ ∃ cs, x = .iaddr cs := by
  have key : ∀ b, eqT kd x y = some b → (∃ k n, x = .int k n) ∨ (∃ s, x = .str s) ∨ (∃ b, x = .bool b) ∨ x = .nilp ∨ (∃ n o, x = .ptr n o) ∨ ∃ cs, x = .iaddr cs := fun b hb => by
    unfold eqT at hb
    split at hb <;> first | (cases hb; done) | skip
    · exact .inr (.inr (.inl ⟨_, rfl⟩))
    · exact .inr (.inr (.inr (.inl rfl)))
    · exact .inr (.inr (.inr (.inl rfl)))
    · exact .inr (.inr (.inr (.inr (.inl ⟨_, _, rfl⟩))))
    · exact .inr (.inr (.inr (.inl rfl)))
    · exact .inr (.inr (.inr (.inr (.inr ⟨_, rfl⟩))))
  unfold binD at h
  split at h <;> first | exact .inl ⟨_, _, rfl⟩ | exact .inr (.inl ⟨_, rfl⟩) | (cases h; done) | skip
  all_goals
    obtain ⟨b, hb, _⟩ := Option.map_eq_some_iff.1 h
    exact key b hb

theorem binD_not {kd : TK} {op : BinOp} {x y v : A} {ok : Bool} {vx : Value} (h : binD kd op x y = some (ok, v)) (hx : VR C x vx) : vx ≠ .nilIface ∧ ∀ c, vx ≠ .agg c := by
  rcases binD_shape h with ⟨k, n, rfl⟩ | ⟨s, rfl⟩ | ⟨b, rfl⟩ | rfl | ⟨n, o, rfl⟩ | ⟨cs, rfl⟩ <;> cases hx <;> exact ⟨by simp, by simp⟩

theorem op_binOp {o : Oper} {op : BinOp} {t t2 : TypeId} {x y : Operand} {i : TI} {v : A} (hR : Rel C) (hρ : ∀ x, VR C (ρ x) (a.eval x)) (ho : o.op = .binOp op t x y t2) (hi : tiOf P t = some i)
    (h : binD i.kind op (ρ x) (ρ y) = some (true, v)) : OutR P a o C v C.H := by
  obtain ⟨cv, h1, h2⟩ := bin_sound (w := C.w) hi (hρ x) (hρ y) h
  obtain ⟨h3, h4⟩ := binD_not h (hρ x)
  refine OutR.same hR ?_ h2
  simp only [execOp, ho, Sem.run_bind, eqGuard_plain h3 h4, Result.andThen_ok, h1, Sem.run_pure]

theorem op_binOp_agg {o : Oper} {op : BinOp} {t t2 : TypeId} {x y : Operand} {i : TI} {ks : List TK} {xs ys : List A} {b : Bool} (hR : Rel C) (hρ : ∀ x, VR C (ρ x) (a.eval x)) (ho : o.op = .binOp op t x y t2) (hi : tiOf P t = some i) (hag : i.agg = true)
    (hx : ρ x = .agg xs) (hy : ρ y = .agg ys) (hk : plainCmp P t = some ks) (h : eqCells ks xs ys = some b) (hop : op = .eql ∨ op = .neq) : OutR P a o C (.bool (if op = .eql then b else !b)) C.H := by
  obtain ⟨ii, d, _, _, _, _, h6, _, _⟩ := tiOf_some hi
  rw [hag] at h6
  unfold plainCmp at hk
  split at hk
  · cases hk
  rename_i hg
  have h1 := hρ x
  have h2 := hρ y
  rw [hx] at h1
  rw [hy] at h2
  generalize hax : a.eval x = ax at h1
  generalize hay : a.eval y = ay at h2
  cases h1 with
  | agg _ c hs hc h1 =>
  cases h2 with
  | agg _ e hs2 hc2 h12 =>
    have v1 : VRs C xs c.toList := ⟨by simpa using hs, fun i hi => by rw [toList_getD]; exact hc i hi, fun i hi => by rw [toList_getD]; exact h1 i hi⟩
    have v2 : VRs C ys e.toList := ⟨by simpa using hs2, fun i hi => by rw [toList_getD]; exact hc2 i hi, fun i hi => by rw [toList_getD]; exact h12 i hi⟩
    have hrun := equalIn_sound (D := 10000) (w := C.w) 8 hk (by omega) v1 v2 h
    simp only [valOf, ← h6, if_true, Array.toArray_toList] at hrun
    have hgd := run_eqGuard_agg C.w op t x y c e (by simpa using hg)
    rcases hop with rfl | rfl
    · refine OutR.same (cv := .bool b) hR ?_ (.bool _)
      simp only [execOp, ho, Sem.run_bind, hax, hay, hgd, Result.andThen_ok, run_eql_struct, hrun, Sem.run_pure]
    · refine OutR.same (cv := .bool (!b)) hR ?_ (.bool _)
      simp only [execOp, ho, Sem.run_bind, hax, hay, hgd, Result.andThen_ok, run_neq_struct, hrun, Sem.run_pure]

theorem op_move {o : Oper} {x : Operand} (hR : Rel C) (hρ : ∀ x, VR C (ρ x) (a.eval x)) (ho : o.op = .move x ∨ o.op = .assign x) : OutR P a o C (ρ x) C.H := by
  refine OutR.same hR ?_ (hρ x)
  rcases ho with ho | ho <;> simp [execOp, ho]

theorem pick_false (x y : A) : A.pick false x y = y := by
  unfold A.pick
  split
  · rfl
  · split
    · rename_i h; subst h; rfl
    · rfl
  · rfl
  · rfl
theorem pick_true (x y : A) : A.pick true x y = x := by
  unfold A.pick
  split
  · rfl
  · split <;> rfl
  · rfl
  · rfl
theorem pick_VR {t : Bool} {x y : A} {vx vy : Value} (hx : t = true → VR C x vx) (hy : t = false → VR C y vy) : VR C (A.pick t x y) (if t then vx else vy) := by
  cases t
  · rw [pick_false]; exact hy rfl
  · rw [pick_true]; exact hx rfl

theorem op_pick {o : Oper} {c x y : Operand} {t : Bool} {v1 v2 : A} (hR : Rel C) (ho : o.op = .pick c x y) (hc : a.eval c = .bool t) (h1 : t = true → VR C v1 (a.eval x)) (h2 : t = false → VR C v2 (a.eval y)) : OutR P a o C (A.pick t v1 v2) C.H := by
  refine OutR.same hR ?_ (pick_VR h1 h2)
  simp only [execOp, ho, hc, asBool, Sem.run_bind, Sem.run_pure, Result.andThen_ok]

theorem op_nilCheck {o : Oper} {x : Operand} {v : A} (hR : Rel C) (hρ : ∀ x, VR C (ρ x) (a.eval x)) (ho : o.op = .nilCheck x)
    (h : (match ρ x with | .ptr n o => some (A.ptr n o) | .iaddr cs => some (A.iaddr cs) | .func (.func f) b c => some (A.func (.func f) b c) | _ => none) = some v) : OutR P a o C v C.H := by
  have hx := hρ x
  generalize hax : a.eval x = ax at hx
  split at h
  · cases h
    rename_i he
    rw [he] at hx
    cases hx with
    | ptr _ _ b hb => exact OutR.same (cv := .pointer (some ⟨b, _, none⟩)) hR (by simp [execOp, ho, hax]) (.ptr _ _ b hb)
  · cases h
    rename_i he
    rw [he] at hx
    cases hx with
    | iaddr _ b of c e fr hb h1 h2 h3 h4 => exact OutR.same (cv := .pointer (some ⟨b, of, none⟩)) hR (by simp [execOp, ho, hax]) (.iaddr _ b of c e fr hb h1 h2 h3 h4)
  · cases h
    rename_i he
    rw [he] at hx
    cases hx with
    | func _ _ _ f c hf hc h1 h2 => exact OutR.same (cv := .func _ f c) hR (by simp [execOp, ho, hax]) (.func _ _ _ f c hf hc h1 h2)
  · cases h

theorem op_neg {o : Oper} {t : TypeId} {x : Operand} {k : IntKind} {n : Int} (hR : Rel C) (hρ : ∀ x, VR C (ρ x) (a.eval x)) (ho : o.op = .unOp .neg t x) (he : ρ x = .int k n) : OutR P a o C (.int k (wrapK k (0 - n))) C.H := by
  have hx := hρ x
  generalize hax : a.eval x = ax at hx
  rw [he] at hx
  cases hx
  rw [wrapK_eq]
  exact OutR.same hR (by simp only [execOp, ho, hax, Op.unary, Op.intArith, Sem.run_bind, Sem.run_pure, Result.andThen_ok]) (.int _ _)
theorem op_xor {o : Oper} {t : TypeId} {x : Operand} {k : IntKind} {n : Int} (hR : Rel C) (hρ : ∀ x, VR C (ρ x) (a.eval x)) (ho : o.op = .unOp .xor t x) (he : ρ x = .int k n) : OutR P a o C (.int k (bitsK .xor k (if k.signed then -1 else k.max) n)) C.H := by
  have hx := hρ x
  generalize hax : a.eval x = ax at hx
  rw [he] at hx
  cases hx
  rw [bitsK_eq]
  exact OutR.same hR (by simp only [execOp, ho, hax, Op.unary, Op.intBits, Sem.run_bind, Sem.run_pure, Result.andThen_ok]; rfl) (.int _ _)
theorem op_not {o : Oper} {t : TypeId} {x : Operand} {b : Bool} (hR : Rel C) (hρ : ∀ x, VR C (ρ x) (a.eval x)) (ho : o.op = .unOp .not t x) (he : ρ x = .bool b) : OutR P a o C (.bool (!b)) C.H := by
  have hx := hρ x
  generalize hax : a.eval x = ax at hx
  rw [he] at hx
  cases hx
  exact OutR.same hR (by simp only [execOp, ho, hax, Op.unary, Sem.run_bind, Sem.run_pure, Result.andThen_ok]) (.bool _)

theorem op_makeFunc {o : Oper} {fn : Fn} {first cap : Array Operand} (hR : Rel C) (hρ : ∀ x, VR C (ρ x) (a.eval x)) (ho : o.op = .makeFunc fn first cap) : OutR P a o C (.func fn (first.toList.map ρ) (cap.toList.map ρ)) C.H := by
  have key : ∀ l : Array Operand, ∀ i, i < (l.toList.map ρ).length → VR C ((l.toList.map ρ).getD i .bot) ((l.map a.eval).getD i undef) := fun l i hi => by
    simp at hi
    simp [List.getD_eq_getElem?_getD, Array.getD_eq_getD_getElem?, hi]
    exact hρ _
  refine OutR.same (cv := .func fn (first.map a.eval) (cap.map a.eval)) hR ?_ (.func _ _ _ _ _ (by simp) (by simp) (key first) (key cap))
  simp only [execOp, ho, Instr.makeFunc, Sem.run_bind, Sem.run_pure, Result.andThen_ok]

theorem op_extract {o : Oper} {t : Operand} {i : Nat} {vs : List A} {v : A} (hR : Rel C) (hρ : ∀ x, VR C (ρ x) (a.eval x)) (ho : o.op = .extract t i) (hx : ρ t = .tup vs) (hv : vs[i]? = some v) : OutR P a o C v C.H := by
  have h := hρ t
  rw [hx] at h
  generalize hax : a.eval t = ax at h
  cases h with
  | tup _ c hs hc =>
    have hlt : i < vs.length := (List.getElem?_eq_some_iff.1 hv).1
    have := hc i hlt
    rw [List.getD_eq_getElem?_getD, hv] at this
    refine OutR.same hR ?_ this
    have hlt' : i < c.size := by omega
    simp only [execOp, ho, hax, Instr.extract, Array.getElem?_eq_getElem hlt', Sem.run_bind, Sem.run_pure, Result.andThen_ok]
    simp [Array.getD_eq_getD_getElem?, hlt']

end Go.VI
