/-
  SvcProcess returns true: a machine has a process just if one is told to run.
-/
import Derived.Test.YtjocfknaojbemaaSvcProc
namespace Go.VI.Svc
open Go.Proofs

/-- What a step says of processes: 'u': one ran ahead of it. -/
def ProcOk (fk : Int) (u : Bool) (o : Ou) (y : St) : Prop := (o.sp = true → u = false ∧ fk = 1) ∧ (o.ki = true → u = true) ∧ y.b = ((u || o.sp) && !(o.ki && ieq y.s 5))

theorem start_proc {f : Fi} {x : St} {now : Int} (h : Inv x) : ProcOk f.fk x.b (startO laterV f x now) (startS laterV f x now) := by
  obtain ⟨⟨h1, h2⟩, h3, h4, h5, h6⟩ := h
  have h7 : ¬ x.s = 4 → ¬ x.s = 2 → ¬ x.s = 3 → x.b = false := fun a b c => by
    cases hb : x.b with
    | false => rfl
    | true => have := h3 hb; omega
  simp only [startO, startS, startT]
  cases hc : br (!ieq f.fk 1) true (br (ieq f.ty 2) f.ne false) with
  | true =>
    simp only [br_t]
    simp only [br_eq, ieq_eq, decide_eq_true_eq]
    repeat' split
    all_goals exact ⟨fun h => Bool.noConfusion h, fun h => Bool.noConfusion h, by simp⟩
  | false =>
    have hfk : f.fk = 1 := by
      rw [br_eq] at hc
      split at hc
      · cases hc
      · rename_i hh
        rw [ieq_eq] at hh
        simpa using hh
    simp only [br_eq, ieq_eq, decide_eq_true_eq]
    split
    · exact ⟨fun h => Bool.noConfusion h, fun h => Bool.noConfusion h, by simp⟩
    split
    · exact ⟨fun h => Bool.noConfusion h, fun h => Bool.noConfusion h, by simp⟩
    split
    · exact ⟨fun h => Bool.noConfusion h, fun h => Bool.noConfusion h, by simp⟩
    rename_i a1 a2 a3
    have hb := h7 a1 a2 a3
    simp only [Bool.false_eq_true, if_false]
    repeat' split
    all_goals exact ⟨fun _ => ⟨hb, hfk⟩, fun h => Bool.noConfusion h, by simp [hb]⟩
theorem stop_proc {f : Fi} {x : St} {now : Int} : ProcOk f.fk x.b (stopO laterV f x now) (stopS laterV f x now) := by
  simp only [stopO, stopS, stopT, br_eq, ieq_eq, decide_eq_true_eq]
  split
  · exact ⟨fun h => Bool.noConfusion h, fun h => Bool.noConfusion h, by simp⟩
  split
  · exact ⟨fun h => Bool.noConfusion h, fun h => Bool.noConfusion h, by simp⟩
  · rename_i hb
    have hb : x.b = true := by simpa using hb
    refine ⟨fun h => Bool.noConfusion h, fun _ => hb, ?_⟩
    show x.b = ((x.b || false) && !(true && ieq 4 5))
    rw [hb]; rfl
theorem exit_proc {f : Fi} {x : St} {code now : Int} : ProcOk f.fk false (exitO laterV f x code now) (exitS laterV f x code now) := by
  have key : ∀ (K : Ou → St → Prop), (∀ o y, o.sp = false → o.ki = false → y.b = false → K o y) → exitT laterV f x code now K := fun K h => by
    simp only [exitT, endsT]
    generalize br (ieq f.ty 2) (ieq code 0) false = c4
    simp only [br_eq]
    repeat' split
    all_goals first
      | exact h _ _ rfl rfl rfl
      | (rename_i hb; exact h _ _ rfl rfl (by simpa using hb))
  have := key (fun o y => ProcOk f.fk false o y) fun o y a b c => ⟨fun h => (by rw [a] at h; cases h), fun h => (by rw [b] at h; cases h), by rw [a, b, c]; rfl⟩
  rwa [exitT_eq] at this
theorem tick_proc {f : Fi} {x : St} {now : Int} (h : Inv x) : ProcOk f.fk x.b (tickO laterV f x now) (tickS laterV f x now) := by
  obtain ⟨⟨h1, h2⟩, h3, h4, h5, h6⟩ := h
  simp only [tickO, tickS, tickT]
  generalize br (ieq x.d 9223372036854775807) true (ilt now x.d) = c4
  simp only [br_eq, ieq_eq, decide_eq_true_eq]
  split
  · exact ⟨fun h => Bool.noConfusion h, fun h => Bool.noConfusion h, by simp⟩
  split
  · rename_i hs
    split
    · exact ⟨fun h => Bool.noConfusion h, fun h => Bool.noConfusion h, by simp⟩
    · refine ⟨fun h => Bool.noConfusion h, fun _ => h6 (.inl hs), ?_⟩
      show x.b = ((x.b || false) && !(true && ieq 4 5))
      rw [h6 (.inl hs)]; rfl
  split
  · rename_i hs
    split
    · refine ⟨fun h => Bool.noConfusion h, fun _ => h6 (.inr hs), ?_⟩
      show false = ((x.b || false) && !(true && ieq 5 5))
      simp [ieq_self]
    · refine ⟨fun h => Bool.noConfusion h, fun _ => h6 (.inr hs), ?_⟩
      show false = ((x.b || false) && !(true && ieq 5 5))
      simp [ieq_self]
  · exact ⟨fun h => Bool.noConfusion h, fun h => Bool.noConfusion h, by simp⟩

theorem inv_b {y : St} (h : Inv y) : (y.b = true → ieq y.s 1 = false ∧ ieq y.s 5 = false) ∧ (ieq y.s 4 = true → y.b = true) := by
  obtain ⟨-, h3, -, -, h6⟩ := h
  simp only [ieq_eq, decide_eq_true_eq, decide_eq_false_iff_not]
  exact ⟨fun hb => by have := h3 hb; omega, fun hs => h6 (.inr hs)⟩

theorem round10 {R : Type} {fk ty : Int} {rm : Bool} {rs ag up dn : Int} {ex : List Str} {l : List CallT.den} {x : St} {now i : Int} (KN : Int → Bool → Int → St → Option R) (KX KR : Bool → Int → Bool → Int → St → Option R)
    (hf : InF ⟨fk, ty, rm, rs, ag, up, dn, Nat.beq ex.length 0⟩) (hx : Inv x) (h0 : 0 ≤ i) (hi : i < l.length) (hk : 0 ≤ (rd l i.toNat).1) :
    ∃ now' x', Inv x' ∧ t10 isF pF wF fk ty rm rs ag up dn ex l x now x.b i KN KX KR = KN now' x'.b (wrapK .i64 (i + 1)) x' := by
  generalize hfi : (⟨fk, ty, rm, rs, ag, up, dn, Nat.beq ex.length 0⟩ : Fi) = f at hf
  have hfk : f.fk = fk := by rw [← hfi]
  have hn := wrap_in (now + wrapK .i64 (rd l i.toNat).2.2)
  generalize hnow : wrapK .i64 (now + wrapK .i64 (rd l i.toNat).2.2) = n at hn
  generalize hcode : (rd l i.toNat).2.1 = code
  have e1 : ilt i (l.length : Int) = true := by rw [ilt_eq]; exact decide_eq_true hi
  have e2 : inb i l.length = true := by simp only [inb, ile_eq, ilt_eq, decide_eq_true h0, decide_eq_true hi, Bool.and_self]
  obtain ⟨⟨s1, -⟩, ⟨t1, -⟩, ⟨x1, -⟩, ⟨k1, -⟩⟩ := all_is (code := code) hf hn hx
  have hfk' : (!ieq fk 1) = !decide (fk = 1) := by rw [ieq_eq]
  have hk5 : Int.tmod (rd l i.toNat).1 5 = 0 ∨ Int.tmod (rd l i.toNat).1 5 = 1 ∨ Int.tmod (rd l i.toNat).1 5 = 2 ∨ Int.tmod (rd l i.toNat).1 5 = 3 ∨ Int.tmod (rd l i.toNat).1 5 = 4 := by
    rw [Int.tmod_eq_emod_of_nonneg hk]; omega
  have fin : ∀ (u : Bool) (o : Ou) (y : St), ProcOk f.fk u o y → Inv y → (o.sp = true → u = false ∧ (!ieq fk 1) = false) ∧ (o.ki = true → u = true) ∧ y.b = ((u || o.sp) && !(o.ki && ieq y.s 5)) ∧ (y.b = true → ieq y.s 1 = false ∧ ieq y.s 5 = false) ∧ (ieq y.s 4 = true → y.b = true) := fun u o y hp hi => by
    obtain ⟨p1, p2, p3⟩ := hp
    refine ⟨fun h => ⟨(p1 h).1, ?_⟩, p2, p3, (inv_b hi).1, (inv_b hi).2⟩
    rw [hfk', decide_eq_true (by rw [← hfk]; exact (p1 h).2)]; rfl
  rcases hk5 with h | h | h | h | h
  · obtain ⟨-, si⟩ := start_keeps hf hn hx
    refine ⟨n, _, si, ?_⟩
    obtain ⟨h1, h2, h3, h4, h5⟩ := fin _ _ _ (start_proc (f := f) (now := n) hx) si
    simp only [t10, pF, hfi, hnow, hcode, Int.ofNat_eq_natCast, e1, e2, h, s1, bnd_some, br_t, show ieq 0 0 = true from rfl]
    generalize startO laterV f x n = o at *
    generalize startS laterV f x n = y at *
    generalize (!ieq fk 1) = nf at *
    generalize o.sp = sp at *
    generalize o.ki = ki at *
    generalize ieq y.s 1 = s1 at *
    generalize ieq y.s 4 = s4 at *
    generalize ieq y.s 5 = s5 at *
    rw [h3] at h4 h5 ⊢
    generalize x.b = u at *
    cases u <;> cases sp <;> cases ki <;> cases s5 <;> cases s4 <;> cases s1 <;> cases nf <;> first | rfl | (exfalso; revert h1 h2 h4 h5; decide)
  · obtain ⟨-, si, -⟩ := stop_keeps hf hn hx
    refine ⟨n, _, si, ?_⟩
    obtain ⟨h1, h2, h3, h4, h5⟩ := fin _ _ _ (stop_proc (f := f) (x := x) (now := n)) si
    simp only [t10, pF, hfi, hnow, hcode, Int.ofNat_eq_natCast, e1, e2, h, t1, bnd_some, br_t, br_f, show ieq 1 0 = false from rfl, show ieq 1 1 = true from rfl]
    generalize stopO laterV f x n = o at *
    generalize stopS laterV f x n = y at *
    generalize (!ieq fk 1) = nf at *
    generalize o.sp = sp at *
    generalize o.ki = ki at *
    generalize ieq y.s 1 = s1 at *
    generalize ieq y.s 4 = s4 at *
    generalize ieq y.s 5 = s5 at *
    rw [h3] at h4 h5 ⊢
    generalize x.b = u at *
    cases u <;> cases sp <;> cases ki <;> cases s5 <;> cases s4 <;> cases s1 <;> cases nf <;> first | rfl | (exfalso; revert h1 h2 h4 h5; decide)
  · obtain ⟨-, si⟩ := exit_keeps (code := code) hf hn hx
    refine ⟨n, _, si, ?_⟩
    obtain ⟨h1, h2, h3, h4, h5⟩ := fin _ _ _ (exit_proc (f := f) (x := x) (code := code) (now := n)) si
    simp only [t10, pF, hfi, hnow, hcode, Int.ofNat_eq_natCast, e1, e2, h, x1, bnd_some, br_t, br_f, show ieq 2 0 = false from rfl, show ieq 2 1 = false from rfl, show ieq 2 2 = true from rfl]
    generalize exitO laterV f x code n = o at *
    generalize exitS laterV f x code n = y at *
    generalize (!ieq fk 1) = nf at *
    generalize o.sp = sp at *
    generalize o.ki = ki at *
    generalize ieq y.s 1 = s1 at *
    generalize ieq y.s 4 = s4 at *
    generalize ieq y.s 5 = s5 at *
    rw [h3] at h4 h5 ⊢
    cases sp <;> cases ki <;> cases s5 <;> cases s4 <;> cases s1 <;> cases nf <;> first | rfl | (exfalso; revert h1 h2 h4 h5; decide)
  · obtain ⟨-, si⟩ := tick_keeps hf hn hx
    refine ⟨n, _, si, ?_⟩
    obtain ⟨h1, h2, h3, h4, h5⟩ := fin _ _ _ (tick_proc (f := f) (now := n) hx) si
    simp only [t10, pF, hfi, hnow, hcode, Int.ofNat_eq_natCast, e1, e2, h, k1, bnd_some, br_t, br_f, show ieq 3 0 = false from rfl, show ieq 3 1 = false from rfl, show ieq 3 2 = false from rfl, show ieq 3 3 = true from rfl]
    generalize tickO laterV f x n = o at *
    generalize tickS laterV f x n = y at *
    generalize (!ieq fk 1) = nf at *
    generalize o.sp = sp at *
    generalize o.ki = ki at *
    generalize ieq y.s 1 = s1 at *
    generalize ieq y.s 4 = s4 at *
    generalize ieq y.s 5 = s5 at *
    rw [h3] at h4 h5 ⊢
    generalize x.b = u at *
    cases u <;> cases sp <;> cases ki <;> cases s5 <;> cases s4 <;> cases s1 <;> cases nf <;> first | rfl | (exfalso; revert h1 h2 h4 h5; decide)
  · refine ⟨n, x, hx, ?_⟩
    obtain ⟨h4, h5⟩ := inv_b hx
    simp only [t10, pF, hfi, hnow, hcode, Int.ofNat_eq_natCast, e1, e2, h, bnd_some, br_t, br_f, show ieq 4 0 = false from rfl, show ieq 4 1 = false from rfl, show ieq 4 2 = false from rfl, show ieq 4 3 = false from rfl]
    generalize ieq x.s 1 = s1 at *
    generalize ieq x.s 4 = s4 at *
    generalize ieq x.s 5 = s5 at *
    generalize x.b = u at *
    cases u <;> cases s5 <;> cases s4 <;> cases s1 <;> first | rfl | (exfalso; revert h4 h5; decide)

theorem L10_some {f : Fc} {l : List CallT.den} (hf : InF f.fi) (hl : chkL l = true) (hn : l.length ≤ 100) : ∀ (v : Nat) (x : St) (now i : Int), Inv x → 0 ≤ i → i ≤ l.length → (l.length : Int) - i < v →
    ∃ r, L10 isF pF wF f.fk f.ty f.rm f.rs f.ag f.up f.dn f.ex l v x now x.b i = some (true, r)
  | 0, x, now, i, hx, h0, hi, hv => by omega
  | v + 1, x, now, i, hx, h0, hi, hv => by
    rw [L10]
    by_cases h : i < l.length
    · obtain ⟨n, x', hx', e⟩ := round10 (fun n u i x => L10 isF pF wF f.fk f.ty f.rm f.rs f.ag f.up f.dn f.ex l v x n u i) (fun r n u i x => some (true, r, n, u, i, x)) (fun r n u i x => some (false, r, n, u, i, x)) (now := now) (rm := f.rm) (fk := f.fk) (ty := f.ty) (rs := f.rs) hf hx h0 h (chkL_get hl h0 h)
      rw [e]
      have hw : wrapK .i64 (i + 1) = i + 1 := by rw [wrap64]; omega
      rw [hw]
      exact L10_some hf hl hn v x' n (i + 1) hx' (by omega) (by omega) (by omega)
    · have hi' : i = l.length := by omega
      have e1 : ilt i (l.length : Int) = false := by rw [ilt_eq]; exact decide_eq_false h
      refine ⟨(false, now, x.b, i, x), ?_⟩
      unfold t10
      rw [Int.ofNat_eq_natCast, e1]
      rfl

/-- SvcProcess is true. -/
theorem process_true {R : Type} {f : Fc} {l : List CallT.den} (hf : chkF f = true) (hl : chkL l = true) (K : Bool → Option R) : f10 L10e isF pF wF f.fk f.ty f.rm f.rs f.ag f.up f.dn f.ex l K = K true := by
  obtain ⟨h1, h2, h3, h4⟩ := chkF_in hf
  unfold f10
  cases hn : Nat.ble 101 l.length with
  | true => rfl
  | false =>
    have hlen : l.length ≤ 100 := by
      rcases Nat.lt_or_ge 100 l.length with h | h
      · rw [Nat.ble_eq_true_of_le h] at hn; cases hn
      · exact h
    have hs := sameS f.ex
    simp only [Bool.not_false, br_t, ieq_self, eqw_self, Bool.true_and, Bool.and_true]
    erw [hs]
    obtain ⟨r, e⟩ := L10_some (f := f) h1 hl hlen (l.length + 1) _ 0 0 new_inv (by omega) (by omega) (by omega)
    have e2 : L10e f l ⟨1, false, 9223372036854775807, false⟩ 0 false 0 = some r := by
      unfold L10e
      rw [e]
    rw [e2]
    simp only [br_t]
    generalize Bool.not _ = c
    cases c <;> rfl

end Go.VI.Svc
