/-
  Each operation does what the interpreter says: part E (fields, indexes, slices, conversions).
-/
import Derived.Test.YtjocfknaojbemaaVIOpD
namespace Go.VI

variable {P : Program} {E : Env} {C : Cx} {a : Act} {ρ : Operand → A}

theorem struct_field {t : TypeId} {i : TI} {fs : List (Nat × Nat × Bool)} {k off sz : Nat} {ag : Bool} (hi : tiOf P t = some i) (hk : i.kind = .struct fs) (hf : fs[k]? = some (off, sz, ag)) :
    ∃ (fa : Array Field) (f : Field) (fi : TypeInfo) (d : TypeDesc), P.underlying t = some (.struct fa) ∧ fa[k]? = some f ∧ f.offset = off ∧ P.info? f.type = some fi ∧ fi.size = sz ∧ P.underlying f.type = some d ∧ isAggB P f.type = ag := by
  obtain ⟨ii, d, h3, h4, h5, _, _, _, _⟩ := tiOf_some hi
  rw [hk] at h5
  obtain ⟨fa, rfl, h6, rfl⟩ := kindOf_struct h5
  rw [List.getElem?_map, Option.map_eq_some_iff] at hf
  obtain ⟨f, hf1, hf2⟩ := hf
  simp only [Prod.mk.injEq] at hf2
  obtain ⟨h7, h8, h9⟩ := hf2
  rw [List.all_eq_true] at h6
  have h10 := h6 f (List.mem_of_getElem? hf1)
  simp only [Bool.and_eq_true] at h10
  obtain ⟨fi, hfi⟩ := Option.isSome_iff_exists.1 h10.1
  obtain ⟨d, hd⟩ := Option.isSome_iff_exists.1 h10.2
  exact ⟨fa, f, fi, d, h4, by simpa using hf1, h7, hfi, by rw [← h8]; simp [Program.cellsOf, hfi], hd, h9⟩

theorem run_fieldAt {s k off sz : Nat} {i : TI} {fs : List (Nat × Nat × Bool)} {ag : Bool} {b o : Nat} {w : World} (hi : tiOf P s = some i) (hk : i.kind = .struct fs) (hf : fs[k]? = some (off, sz, ag)) (hs : sz ≠ 0) :
    (Instr.fieldAt s (.pointer (some ⟨b, o, none⟩)) k).run P w = .ok (.pointer (some ⟨b, o + off, none⟩)) w := by
  obtain ⟨fa, f, fi, d, h1, h2, h3, h4, h5, h6, h7⟩ := struct_field hi hk hf
  simp only [Instr.fieldAt, Sem.run_bind, run_underlying h1, Result.andThen_ok, h2, Instr.sureAddr, Sem.run_pure, fieldPlace, run_sizeOf h4]
  rw [Sem.run_ite, if_neg (by omega)]
  simp only [Sem.run_pure, Result.andThen_ok, add_none, h3]

theorem op_fieldAddr {o : Oper} {s k off sz : Nat} {x : Operand} {i : TI} {fs : List (Nat × Nat × Bool)} {ag : Bool} {v : A} (hR : Rel C) (hρ : ∀ x, VR C (ρ x) (a.eval x)) (ho : o.op = .fieldAddr s x k) (hi : tiOf P s = some i) (hk : i.kind = .struct fs)
    (hf : fs[k]? = some (off, sz, ag)) (hs : sz ≠ 0) (h : (∃ n of, ρ x = .ptr n of ∧ v = .ptr n (of + off)) ∨ (∃ cs, ρ x = .iaddr cs ∧ v = .iaddr (cs.drop off) ∧ off ≤ cs.length) ∨ (∃ n g j of blk, ρ x = .rptr n g j of ∧ v = .rptr n g j (of + off) ∧ C.H.get n = some blk ∧ genOf blk = some g)) : OutR P a o C v C.H := by
  have hx := hρ x
  generalize hax : a.eval x = ax at hx
  rcases h with ⟨n, of, he, rfl⟩ | ⟨cs, he, rfl, hl⟩ | ⟨n, g, j, of, blk, he, rfl, hg1, hg2⟩
  · rw [he] at hx
    cases hx with
    | ptr _ _ b hb =>
      refine OutR.same hR ?_ (.ptr n (of + off) b hb)
      simp only [execOp, ho, hax, Sem.run_bind, run_fieldAt hi hk hf hs, Result.andThen_ok, Sem.run_pure]
  · rw [he] at hx
    cases hx with
    | iaddr _ b of c e fr hb h1 h2 h3 h4 =>
      refine OutR.same (cv := .pointer (some ⟨b, of + off, none⟩)) hR ?_ ?_
      · simp only [execOp, ho, hax, Sem.run_bind, run_fieldAt hi hk hf hs, Result.andThen_ok, Sem.run_pure]
      · refine .iaddr _ b (of + off) c e fr hb h1 (by simp; omega) (fun j hj => ?_) (fun j hj => ?_)
        · rw [getD_drop, Nat.add_assoc]; simp at hj; exact h3 _ (by omega)
        · rw [Nat.add_assoc]; simp at hj; exact h4 _ (by omega)
  · rw [he] at hx
    cases hx with
    | rptr _ _ _ _ _ hn h1 hle hh =>
      obtain ⟨hlt, b, cp, hη, rfl⟩ := hh blk hg1 hg2
      refine OutR.same (cv := .pointer (some ⟨b, j * szOf blk + of + off, none⟩)) hR ?_ (.rptr _ _ _ _ _ hn rfl hle fun blk' hb' hg' => ?_)
      · simp only [execOp, ho, hax, Sem.run_bind, run_fieldAt hi hk hf hs, Result.andThen_ok, Sem.run_pure]
      · rw [hg1] at hb'
        cases hb'
        exact ⟨hlt, b, cp, hη, by rw [Nat.add_assoc]⟩

theorem op_field {o : Oper} {t k off sz : Nat} {x : Operand} {i : TI} {fs : List (Nat × Nat × Bool)} {ag : Bool} {cs : List A} {v : A} (hR : Rel C) (hρ : ∀ x, VR C (ρ x) (a.eval x)) (ho : o.op = .field t x k) (hi : tiOf P t = some i) (hk : i.kind = .struct fs)
    (hf : fs[k]? = some (off, sz, ag)) (hx : ρ x = .agg cs) (hle : off + sz ≤ cs.length) (hv : one ag ((cs.drop off).take sz) = some v) : OutR P a o C v C.H := by
  obtain ⟨fa, f, fi, d, h1, h2, h3, h4, h5, h6, h7⟩ := struct_field hi hk hf
  have h := hρ x
  rw [hx] at h
  generalize hax : a.eval x = ax at h
  cases h with
  | agg _ c hs hc hone =>
    have v1 : VRs C cs c.toList := ⟨by simpa using hs, fun i hi => by rw [toList_getD]; exact hc i hi, fun i hi => by rw [toList_getD]; exact hone i hi⟩
    have hp : isAggB P f.type = false → 0 < fi.size := fun hna => by
      rw [← h7, hna] at hv
      have := one_len hv
      simp at this
      omega
    have hrun := run_part (c := c) (o := f.offset) (w := C.w) h4 h6 (by rw [h3, h5]; omega) hp
    rw [h3, h5] at hrun
    simp only [valOf, h7] at hrun
    refine OutR.same hR ?_ (one_VR ((v1.drop off).take sz) hv)
    simp only [execOp, ho, hax, Instr.field, Sem.run_bind, run_underlying h1, Result.andThen_ok, h2, asAgg, Sem.run_pure, h3, hrun]

theorem run_asIntOf {k : IntKind} {n : Int} {w : World} : (asIntOf (.int k n)).run P w = .ok (k, n) w := rfl

theorem inb_iff {i : Int} {n : Nat} (h : inb i n = true) : 0 ≤ i ∧ i < n := by
  unfold inb at h
  rw [ile_eq, ilt_eq] at h
  simpa using h

theorem run_indexAt_arr {t n e : Nat} {i ie : TI} {k : IntKind} {ix : Int} {b o : Nat} {w : World} (hi : tiOf P t = some i) (hk : i.kind = .arr n e) (hie : tiOf P e = some ie) (h : inb ix n = true) :
    (Instr.indexAt t (.pointer (some ⟨b, o, none⟩)) (.int k ix)).run P w = .ok (.pointer (some ⟨b, o + ix.toNat * ie.size, none⟩)) w := by
  obtain ⟨ii, d, h3, h4, h5, _, _, _, _⟩ := tiOf_some hi
  obtain ⟨ij, d2, k3, k4, k5, k6, _, _, _⟩ := tiOf_some hie
  rw [hk] at h5
  have := kindOf_arr h5
  subst this
  obtain ⟨h6, h7⟩ := inb_iff h
  simp only [Instr.indexAt, run_asIntOf, Sem.run_bind, Result.andThen_ok, run_underlying h4, Instr.sureAddr, Sem.run_pure]
  rw [Sem.run_ite, if_pos ⟨h6, h7⟩]
  simp only [Sem.run_bind, run_sizeOf k3, Result.andThen_ok, Sem.run_pure, add_none, k6]

theorem run_indexAt_slice {t e : Nat} {i ie : TI} {k : IntKind} {ix : Int} {b o len cap : Nat} {w : World} (hi : tiOf P t = some i) (hk : i.kind = .slice e) (hie : tiOf P e = some ie) (h : inb ix len = true) :
    (Instr.indexAt t (.slice (some ⟨b, o, none⟩) len cap) (.int k ix)).run P w = .ok (.pointer (some ⟨b, o + ix.toNat * ie.size, none⟩)) w := by
  obtain ⟨ii, d, h3, h4, h5, _, _, _, _⟩ := tiOf_some hi
  obtain ⟨ij, d2, k3, k4, k5, k6, _, _, _⟩ := tiOf_some hie
  rw [hk] at h5
  have := kindOf_slice h5
  subst this
  obtain ⟨h6, h7⟩ := inb_iff h
  simp only [Instr.indexAt, run_asIntOf, Sem.run_bind, Result.andThen_ok, run_underlying h4, Sem.run_pure]
  rw [Sem.run_ite, if_pos ⟨h6, h7⟩]
  simp only [Sem.run_bind, run_sizeOf k3, Result.andThen_ok, Sem.run_pure, add_none, k6]

theorem op_indexAddr_arr {o : Oper} {t n e m of : Nat} {x ix : Operand} {i ie : TI} {k : IntKind} {z : Int} (hR : Rel C) (hρ : ∀ x, VR C (ρ x) (a.eval x)) (ho : o.op = .indexAddr t x ix) (hi : tiOf P t = some i) (hk : i.kind = .arr n e) (hie : tiOf P e = some ie)
    (hx : ρ x = .ptr m of) (hix : ρ ix = .int k z) (h : inb z n = true) : OutR P a o C (.ptr m (of + z.toNat * ie.size)) C.H := by
  have h1 := hρ x
  have h2 := hρ ix
  rw [hx] at h1
  rw [hix] at h2
  generalize hax : a.eval x = ax at h1
  generalize hay : a.eval ix = ay at h2
  cases h2
  cases h1 with
  | ptr _ _ b hb =>
    refine OutR.same hR ?_ (.ptr _ _ b hb)
    simp only [execOp, ho, hax, hay, Sem.run_bind, run_indexAt_arr hi hk hie h, Result.andThen_ok, Sem.run_pure]

theorem op_indexAddr_sl {o : Oper} {t e : Nat} {x ix : Operand} {i ie : TI} {k : IntKind} {z : Int} {ty : Ty} {xs : List ty.den} (hR : Rel C) (hρ : ∀ x, VR C (ρ x) (a.eval x)) (ho : o.op = .indexAddr t x ix) (hi : tiOf P t = some i) (hk : i.kind = .slice e) (hie : tiOf P e = some ie)
    (hx : ρ x = .sl ty xs) (hix : ρ ix = .int k z) (hsz : ty.size = ie.size) (h : inb z xs.length = true) : OutR P a o C (.iaddr (enc ty (rd xs z.toNat))) C.H := by
  have h1 := hρ x
  have h2 := hρ ix
  rw [hx] at h1
  rw [hix] at h2
  generalize hax : a.eval x = ax at h1
  generalize hay : a.eval ix = ay at h2
  obtain ⟨h6, h7⟩ := inb_iff h
  have hlt : z.toNat < xs.length := by omega
  cases h2
  cases h1 with
  | sl0 => simp at hlt
  | sl _ _ b of cap c e fr hb hno hs _ hc h1 =>
    have hrow : (z.toNat + 1) * ty.size ≤ xs.length * ty.size := Nat.mul_le_mul_right _ hlt
    rw [Nat.add_mul, Nat.one_mul] at hrow
    refine OutR.same (cv := .pointer (some ⟨b, of + z.toNat * ie.size, none⟩)) hR ?_ (.iaddr _ b _ c e fr hb hno (by rw [enc_length, ← hsz]; omega) (fun j hj => ?_) (fun j hj => ?_))
    · simp only [execOp, ho, hax, hay, Sem.run_bind, run_indexAt_slice hi hk hie h, Result.andThen_ok, Sem.run_pure]
    · rw [enc_length] at hj
      rw [← hsz]
      exact hc _ j hlt hj
    · rw [enc_length] at hj
      rw [← hsz]
      exact h1 _ j hlt hj

theorem op_indexAddr_row {o : Oper} {t e n g : Nat} {sub : Option (Nat × Nat)} {x ix : Operand} {i ie : TI} {k : IntKind} {z : Int} {rw : Bool} {ty : Ty} {xs : List ty.den} (hR : Rel C) (hρ : ∀ x, VR C (ρ x) (a.eval x)) (ho : o.op = .indexAddr t x ix) (hi : tiOf P t = some i) (hk : i.kind = .slice e) (hie : tiOf P e = some ie)
    (hx : ρ x = .hsl n g sub) (hg : C.H.get n = some (.row rw ty xs g)) (hix : ρ ix = .int k z) (hsz : ty.size = ie.size) (h : inb z (lenSub xs sub) = true) : OutR P a o C (.rptr n g (offSub sub + z.toNat) 0) C.H := by
  have h1 := hρ x
  have h2 := hρ ix
  rw [hx] at h1
  rw [hix] at h2
  generalize hax : a.eval x = ax at h1
  generalize hay : a.eval ix = ay at h2
  obtain ⟨h6, h7⟩ := inb_iff h
  cases h2
  cases h1 with
  | hsl _ _ _ ad len cap hn _ hle hh =>
    obtain ⟨hl, hr⟩ := hh _ hg rfl
    have hlen : len = lenSub xs sub := by rw [hl]; cases sub <;> rfl
    subst hlen
    have hpos : lenSub xs sub ≠ 0 := by omega
    have hkey : ∃ b cp, C.η n = some (b, cp) ∧ ad = some ⟨b, offSub sub * ty.size, none⟩ ∧ offSub sub + z.toNat < xs.length := by
      rcases hR.blocks n _ hg with ⟨he, hxs⟩ | ⟨b, cp, c, e, fr, he, _⟩
      · exfalso
        subst hxs
        cases sub with
        | none => simp [lenSub] at hpos
        | some p =>
          obtain ⟨o1, l1⟩ := p
          have := hr.1
          simp only [lenOf] at this
          simp [lenSub] at hpos
          simp at this
          omega
      · cases sub with
        | none =>
          simp only [he] at hr
          obtain ⟨rfl, rfl⟩ := hr
          simp only [lenSub] at h7
          exact ⟨b, _, he, by simp [offSub], by simp [offSub]; omega⟩
        | some p =>
          obtain ⟨o1, l1⟩ := p
          obtain ⟨hr1, hr2⟩ := hr
          simp only [lenSub] at hpos h7
          obtain ⟨b', cp', he', rfl⟩ := hr2 hpos
          simp only [lenOf] at hr1
          exact ⟨b', cp', he', rfl, by simp [offSub]; omega⟩
    obtain ⟨b, cp, he, rfl, hlt⟩ := hkey
    refine OutR.same (cv := .pointer (some ⟨b, offSub sub * ty.size + z.toNat * ie.size, none⟩)) hR ?_ (.rptr _ _ _ _ _ hn rfl hle fun blk hb hg' => ?_)
    · simp only [execOp, ho, hax, hay, Sem.run_bind, run_indexAt_slice hi hk hie h, Result.andThen_ok, Sem.run_pure]
    · rw [hg] at hb
      cases hb
      exact ⟨hlt, b, cp, he, by simp only [szOf]; rw [← hsz, Nat.add_mul, Nat.add_zero]⟩

theorem op_indexAddr_urow {o : Oper} {t e n g sz : Nat} {x ix : Operand} {i ie : TI} {k : IntKind} {z : Int} {cs : List A} (hR : Rel C) (hρ : ∀ x, VR C (ρ x) (a.eval x)) (ho : o.op = .indexAddr t x ix) (hi : tiOf P t = some i) (hk : i.kind = .slice e) (hie : tiOf P e = some ie)
    (hx : ρ x = .hsl n g none) (hg : C.H.get n = some (.urow false sz cs g)) (hix : ρ ix = .int k z) (hsz : sz = ie.size) (h : inb z (cs.length / sz) = true) : OutR P a o C (.iaddr ((cs.drop (z.toNat * sz)).take sz)) C.H := by
  have h1 := hρ x
  have h2 := hρ ix
  rw [hx] at h1
  rw [hix] at h2
  generalize hax : a.eval x = ax at h1
  generalize hay : a.eval ix = ay at h2
  obtain ⟨h6, h7⟩ := inb_iff h
  cases h2
  cases h1 with
  | hsl _ _ _ ad len cap hn _ hle hh =>
    obtain ⟨hl, hr⟩ := hh _ hg rfl
    obtain ⟨h0, b, cp, c, e1, fr, he, hb, hf, hc1, hc2, hc3, hc4, hc5⟩ := hR.blocks n _ hg
    simp only [he] at hr
    obtain ⟨rfl, rfl⟩ := hr
    have hl' : len = cs.length / sz := hl
    subst hl'
    have hlt : z.toNat < cs.length / sz := by omega
    have hrow : (z.toNat + 1) * sz ≤ cs.length / sz * sz := Nat.mul_le_mul_right _ hlt
    rw [hc3, Nat.add_mul, Nat.one_mul] at hrow
    have hno : ¬ C.own b := by
      rintro (hh | ⟨m, y, hm, hrw, hbo⟩)
      · exact (hR.hid b hh).2 n _ hg (by simp [blockOf, he])
      have := hR.dist m n y _ b hm hg hrw hbo (by simp [blockOf, he])
      subst this
      rw [hg] at hm
      cases hm
      cases hrw
    refine OutR.same (cv := .pointer (some ⟨b, 0 + z.toNat * ie.size, none⟩)) hR ?_ (.iaddr _ b _ c e1 fr hb hno (by simp; rw [← hsz]; omega) (fun j hj => ?_) (fun j hj => ?_))
    · simp only [execOp, ho, hax, hay, Sem.run_bind, run_indexAt_slice hi hk hie h, Result.andThen_ok, Sem.run_pure]
    · simp at hj
      rw [getD_take _ _ _ _ (by omega), getD_drop, Nat.zero_add, ← hsz]
      exact hc4 _ (by omega)
    · simp at hj
      rw [Nat.zero_add, ← hsz]
      exact hc5 _ (by omega)

theorem op_index_str {o : Oper} {t : TypeId} {x ix : Operand} {i : TI} {k : IntKind} {z : Int} {s : Str} (hR : Rel C) (hρ : ∀ x, VR C (ρ x) (a.eval x)) (ho : o.op = .index t x ix) (hi : tiOf P t = some i) (hk : i.kind = .str)
    (hx : ρ x = .str s) (hix : ρ ix = .int k z) (h : inb z s.length = true) : OutR P a o C (.int .u8 ((s.getD z.toNat 0).toNat : Int)) C.H := by
  have h1 := hρ x
  have h2 := hρ ix
  rw [hx] at h1
  rw [hix] at h2
  generalize hax : a.eval x = ax at h1
  generalize hay : a.eval ix = ay at h2
  obtain ⟨h6, h7⟩ := inb_iff h
  obtain ⟨ii, d, h3, h4, h5, _, _, _, _⟩ := tiOf_some hi
  rw [hk] at h5
  have := kindOf_str h5
  subst this
  cases h2
  cases h1 with
  | str _ u hu =>
    subst hu
    have hlt : z.toNat < u.size := by simp at h7; omega
    refine OutR.same hR ?_ (.int _ _)
    simp only [execOp, ho, hax, hay, Instr.index, run_asIntOf, Sem.run_bind, Result.andThen_ok, run_underlying h4]
    rw [if_pos h6]
    have hg : u[z.toNat]? = some (u.data.toList.getD z.toNat 0) := by
      have hlt2 : z.toNat < u.data.size := hlt
      have e1 : u[z.toNat]? = some u[z.toNat] := getElem?_pos u z.toNat hlt
      rw [e1]
      congr 1
      rw [List.getD_eq_getElem?_getD, Array.getElem?_toList, Array.getElem?_eq_getElem hlt2]
      rfl
    rw [hg]
    rfl

theorem decH_empty : (t : Ty) → ∀ {l : List A} {x : t.den} {r : List A} {H1 : Heap}, decH t noHeap l = some (x, r, H1) → H1 = noHeap ∧ ∀ H, decH t H l = some (x, r, H)
  | .unit, l, x, r, H1, h => by
    simp only [decH, Option.some.injEq, Prod.mk.injEq] at h ⊢
    obtain ⟨_, rfl, rfl⟩ := h
    exact ⟨rfl, fun H => by simp⟩
  | .bool, l, x, r, H1, h => by
    simp only [decH] at h ⊢
    split at h
    · simp only [Option.some.injEq, Prod.mk.injEq] at h
      obtain ⟨rfl, rfl, rfl⟩ := h
      exact ⟨rfl, fun H => rfl⟩
    · cases h
  | .int k, l, x, r, H1, h => by
    simp only [decH] at h ⊢
    split at h
    · split at h
      · rename_i hk
        simp only [Option.some.injEq, Prod.mk.injEq] at h
        obtain ⟨rfl, rfl, rfl⟩ := h
        exact ⟨rfl, fun H => by rw [if_pos hk]⟩
      · cases h
    · cases h
  | .str, l, x, r, H1, h => by
    simp only [decH] at h ⊢
    split at h
    · simp only [Option.some.injEq, Prod.mk.injEq] at h
      obtain ⟨rfl, rfl, rfl⟩ := h
      exact ⟨rfl, fun H => rfl⟩
    · cases h
  | .sl e, l, x, r, H1, h => by
    simp only [decH] at h ⊢
    split at h
    · simp only [Option.some.injEq, Prod.mk.injEq] at h
      obtain ⟨rfl, rfl, rfl⟩ := h
      exact ⟨rfl, fun H => rfl⟩
    · split at h
      · rename_i he
        subst he
        simp only [Option.some.injEq, Prod.mk.injEq] at h
        obtain ⟨rfl, rfl, rfl⟩ := h
        exact ⟨rfl, fun H => by simp⟩
      · cases h
    · simp [noHeap, Heap.get, luk] at h
    · cases h
  | .fn, l, x, r, H1, h => by
    simp only [decH] at h ⊢
    split at h
    · simp only [Option.some.injEq, Prod.mk.injEq] at h
      obtain ⟨rfl, rfl, rfl⟩ := h
      exact ⟨rfl, fun H => rfl⟩
    · cases h
  | .nsl e, l, x, r, H1, h => by
    simp only [decH] at h ⊢
    split at h
    · simp only [Option.some.injEq, Prod.mk.injEq] at h
      obtain ⟨rfl, rfl, rfl⟩ := h
      exact ⟨rfl, fun H => rfl⟩
    · split at h
      · rename_i he
        subst he
        simp only [Option.some.injEq, Prod.mk.injEq] at h
        obtain ⟨rfl, rfl, rfl⟩ := h
        exact ⟨rfl, fun H => by simp⟩
      · cases h
    · simp [noHeap, Heap.get, luk] at h
    · cases h
  | .pair a b, l, x, r, H1, h => by
    simp only [decH] at h ⊢
    split at h
    · rename_i x1 r1 H2 ha
      obtain ⟨rfl, ha'⟩ := decH_empty a ha
      split at h
      · rename_i y r2 H3 hb
        obtain ⟨rfl, hb'⟩ := decH_empty b hb
        simp only [Option.some.injEq, Prod.mk.injEq] at h
        obtain ⟨rfl, rfl, rfl⟩ := h
        exact ⟨rfl, fun H => by simp only [ha' H, hb' H]⟩
      · cases h
    · cases h
  | .ref t, l, x, r, H1, h => by
    simp only [decH] at h ⊢
    split at h
    · simp only [Option.some.injEq, Prod.mk.injEq] at h
      obtain ⟨rfl, rfl, rfl⟩ := h
      exact ⟨rfl, fun H => rfl⟩
    · split at h
      · rename_i y r2 H2 hd
        obtain ⟨rfl, hd'⟩ := decH_empty t hd
        simp only [Option.some.injEq, Prod.mk.injEq] at h
        obtain ⟨rfl, rfl, rfl⟩ := h
        exact ⟨rfl, fun H => by simp only [hd' H]⟩
      · cases h
    · split at h
      · simp [noHeap, Heap.get, luk] at h
      · cases h
    · cases h

theorem decRows_empty (t : Ty) : ∀ (n : Nat) {l : List A} {xs : List t.den} {H1 : Heap}, decRows t n noHeap l = some (xs, H1) → ∀ H, decRows t n H l = some (xs, H)
  | 0, [], xs, H1, h, H => by simp only [decRows, Option.some.injEq, Prod.mk.injEq] at h ⊢; exact ⟨h.1, trivial⟩
  | 0, _ :: _, xs, H1, h, H => by simp [decRows] at h
  | n + 1, l, xs, H1, h, H => by
    simp only [decRows] at h ⊢
    split at h
    · rename_i x r H2 hd
      obtain ⟨rfl, hd'⟩ := decH_empty t hd
      split at h
      · rename_i ys H3 hr
        simp only [Option.some.injEq, Prod.mk.injEq] at h
        obtain ⟨rfl, rfl⟩ := h
        simp only [hd' H, decRows_empty t n hr H]
      · cases h
    · cases h

/-- Plain data, read without memory. -/
theorem decH_plain {t : Ty} {l : List A} {c : List Value} {x : t.den} {H1 : Heap} (hR : Rel C) (hl : VRs C l c) (h : decH t noHeap l = some (x, [], H1)) : VRs C (enc t x) c := by
  obtain ⟨_, h2⟩ := decH_empty t h
  obtain ⟨_, hv, he, hle⟩ := decH_sound t hR hl (h2 C.H)
  have hlen : l.length ≤ t.size := by
    have := congrArg List.length he
    simp at this; omega
  have : c.take t.size = c := List.take_of_length_le (by rw [hl.1]; exact hlen)
  rw [this] at hv
  exact hv

theorem op_index_arr {o : Oper} {t n e : Nat} {x ix : Operand} {i ie : TI} {k : IntKind} {z : Int} {cs : List A} {ty : Ty} {xs : List ty.den} {H1 : Heap} {v : A} (hR : Rel C) (hρ : ∀ x, VR C (ρ x) (a.eval x)) (ho : o.op = .index t x ix) (hi : tiOf P t = some i) (hk : i.kind = .arr n e) (hie : tiOf P e = some ie)
    (hx : ρ x = .agg cs) (hix : ρ ix = .int k z) (hsz : ty.size = ie.size) (hd : decRows ty n noHeap cs = some (xs, H1)) (h : inb z n = true) (hv : one ie.agg (enc ty (rd xs z.toNat)) = some v) : OutR P a o C v C.H := by
  have h1 := hρ x
  have h2 := hρ ix
  rw [hx] at h1
  rw [hix] at h2
  generalize hax : a.eval x = ax at h1
  generalize hay : a.eval ix = ay at h2
  obtain ⟨h6, h7⟩ := inb_iff h
  obtain ⟨ii, d, h3, h4, h5, _, _, _, _⟩ := tiOf_some hi
  obtain ⟨ij, d2, k3, k4, k5, k6, k7, _, _⟩ := tiOf_some hie
  rw [hk] at h5
  have := kindOf_arr h5
  subst this
  cases h2
  cases h1 with
  | agg _ c hs hc hone =>
    have v1 : VRs C cs c.toList := ⟨by simpa using hs, fun i hi => by rw [toList_getD]; exact hc i hi, fun i hi => by rw [toList_getD]; exact hone i hi⟩
    obtain ⟨_, hl1, hl2, hvs⟩ := decRows_sound ty n hR v1 (decRows_empty ty n hd C.H)
    have hlt : z.toNat < n := by omega
    have hrow : (z.toNat + 1) * ty.size ≤ n * ty.size := Nat.mul_le_mul_right _ hlt
    rw [Nat.add_mul, Nat.one_mul] at hrow
    have hcs : c.size = n * ty.size := by omega
    have hel : VRs C (enc ty (rd xs z.toNat)) ((c.toList.drop (z.toNat * ty.size)).take ty.size) := by
      refine ⟨by simp [enc_length]; omega, fun j hj => ?_, fun j hj => ?_⟩ <;> rw [enc_length] at hj
      · rw [getD_take _ _ _ _ hj, getD_drop]
        exact hvs _ j hlt hj
      · rw [getD_take _ _ _ _ hj, getD_drop]
        exact v1.2.2 _ (by omega)
    have hp : isAggB P e = false → 0 < ij.size := fun hna => by
      rw [k7, hna] at hv
      have := one_len hv
      rw [enc_length] at this
      omega
    have hrun := run_part (c := c) (o := z.toNat * ij.size) (w := C.w) k3 k4 (by rw [← k6, ← hsz]; omega) hp
    simp only [valOf, ← k7] at hrun
    refine OutR.same hR ?_ (one_VR hel hv)
    simp only [execOp, ho, hax, hay, Instr.index, run_asIntOf, Sem.run_bind, Result.andThen_ok, run_underlying h4]
    rw [Sem.run_ite, if_pos ⟨h6, h7⟩]
    simp only [Sem.run_bind, run_sizeOf k3, Result.andThen_ok, hrun, Sem.run_pure, hsz, k6]

end Go.VI
