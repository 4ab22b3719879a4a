/-
  Each operation does what the interpreter says: part F (slices, conversions, makes).
-/
import Derived.Test.YtjocfknaojbemaaVIOpE
namespace Go.VI

variable {P : Program} {E : Env} {C : Cx} {a : Act} {ρ : Operand → A}

theorem run_sliceBound {k : IntKind} {z : Int} {y : Nat} {code : BoundsCode} {w : World} (h0 : 0 ≤ z) (h1 : z ≤ y) : (Instr.sliceBound (.int k z) y code).run P w = .ok z.toNat w := by
  simp only [Instr.sliceBound, run_asIntOf, Sem.run_bind, Result.andThen_ok]
  rw [Sem.run_ite, if_pos ⟨h0, h1⟩]
  rfl

theorem bounds_sound {n cap : Nat} {lo hi : Option Operand} {l h : Nat} {isSl : Bool} {w : World} (hcap : n ≤ cap) (hρ : ∀ x, VR C (ρ x) (a.eval x)) (hb : boundsD n (optEv ρ lo) (optEv ρ hi) = some (true, l, h)) :
    (Instr.sliceBounds isSl n cap (lo.map a.eval) (hi.map a.eval) none).run P w = .ok (l, h, cap) w ∧ l ≤ h ∧ h ≤ n := by
  cases lo with
  | none =>
    cases hi with
    | none =>
      simp only [optEv, boundsD, Option.some.injEq, Prod.mk.injEq, true_and] at hb
      obtain ⟨rfl, rfl⟩ := hb
      simp only [Instr.sliceBounds, Option.map_none, Sem.run_bind, Sem.run_pure, Result.andThen_ok]
      exact ⟨trivial, by omega, by omega⟩
    | some y =>
      have hy := hρ y
      simp only [optEv, boundsD] at hb
      generalize hay : a.eval y = ay at hy
      split at hb <;> first | (cases hb; done) | skip
      all_goals rename_i h1 h2
      all_goals first | (simp at h1; done) | (simp at h2; done) | skip
      simp only [Option.some.injEq] at h2
      rw [h2] at hy
      cases hy
      simp only [Option.some.injEq, Prod.mk.injEq, Bool.and_eq_true, ile_eq, decide_eq_true_eq] at hb
      obtain ⟨⟨b1, b2⟩, rfl, rfl⟩ := hb
      simp only [Instr.sliceBounds, Option.map_none, Option.map_some, hay, Sem.run_bind, Sem.run_pure, Result.andThen_ok]
      rw [run_sliceBound b1 (by omega)]
      exact ⟨rfl, by omega, by omega⟩
  | some x =>
    have hx := hρ x
    generalize hax : a.eval x = ax at hx
    cases hi with
    | none =>
      simp only [optEv, boundsD] at hb
      split at hb <;> first | (cases hb; done) | skip
      all_goals rename_i h1 h2
      all_goals first | (simp at h1; done) | (simp at h2; done) | skip
      simp only [Option.some.injEq] at h1
      rw [h1] at hx
      cases hx
      simp only [Option.some.injEq, Prod.mk.injEq, Bool.and_eq_true, ile_eq, decide_eq_true_eq] at hb
      obtain ⟨⟨b1, b2⟩, rfl, rfl⟩ := hb
      simp only [Instr.sliceBounds, Option.map_none, Option.map_some, hax, Sem.run_bind, Sem.run_pure, Result.andThen_ok]
      simp only [Option.isSome_none, Bool.false_eq_true, if_false]
      rw [run_sliceBound b1 (by omega)]
      exact ⟨rfl, by omega, by omega⟩
    | some y =>
      have hy := hρ y
      generalize hay : a.eval y = ay at hy
      simp only [optEv, boundsD] at hb
      split at hb <;> first | (cases hb; done) | skip
      all_goals rename_i h1 h2
      all_goals first | (simp at h1; done) | (simp at h2; done) | skip
      simp only [Option.some.injEq] at h1 h2
      rw [h1] at hx
      rw [h2] at hy
      cases hx
      cases hy
      simp only [Option.some.injEq, Prod.mk.injEq, Bool.and_eq_true, ile_eq, decide_eq_true_eq] at hb
      obtain ⟨⟨b1, b2, b3, b4⟩, rfl, rfl⟩ := hb
      simp only [Instr.sliceBounds, Option.map_some, hax, hay, Sem.run_bind, Sem.run_pure, Result.andThen_ok]
      rw [run_sliceBound b1 (by omega)]
      simp only [Option.isSome_none, Bool.false_eq_true, if_false, Result.andThen_ok]
      rw [run_sliceBound b3 (by omega)]
      exact ⟨rfl, by omega, by omega⟩

theorem op_slice_str {o : Oper} {t : TypeId} {x : Operand} {lo hiO : Option Operand} {i : TI} {s : Str} {l h : Nat} (hR : Rel C) (hρ : ∀ x, VR C (ρ x) (a.eval x)) (ho : o.op = .slice t x lo hiO none) (hi : tiOf P t = some i) (hk : i.kind = .str)
    (hx : ρ x = .str s) (hb : boundsD s.length (optEv ρ lo) (optEv ρ hiO) = some (true, l, h)) : OutR P a o C (.str ((s.take h).drop l)) C.H := by
  have h1 := hρ x
  rw [hx] at h1
  generalize hax : a.eval x = ax at h1
  obtain ⟨ii, d, h3, h4, h5, _, _, _, _⟩ := tiOf_some hi
  rw [hk] at h5
  have := kindOf_str h5
  subst this
  cases h1 with
  | str _ u hu =>
    have hul : u.size = s.length := (str_toList hu).2
    obtain ⟨hrun, hlh, hhn⟩ := bounds_sound (P := P) (isSl := false) (w := C.w) (Nat.le_refl _) hρ hb
    rw [← hul] at hrun
    refine OutR.same (cv := .string (u.extract l h)) hR ?_ (.str _ _ ?_)
    · simp only [execOp, ho, hax, Instr.sliceAt, Instr.slice, Sem.run_bind, run_underlying h4, Result.andThen_ok, Option.map_none]
      simp only [Option.isSome_none, Bool.false_eq_true, if_false, Sem.run_bind, Sem.run_pure, hrun, Result.andThen_ok]
    · subst hu
      simp [ByteArray.data_extract, List.drop_take]

theorem run_slice_slice {t e : Nat} {lo hiO : Option Operand} {i ie : TI} {ad : Option Addr} {len cap l h : Nat} {w : World} (hi : tiOf P t = some i) (hk : i.kind = .slice e) (hie : tiOf P e = some ie) (hcap : len ≤ cap) (hρ : ∀ x, VR C (ρ x) (a.eval x))
    (hb : boundsD len (optEv ρ lo) (optEv ρ hiO) = some (true, l, h)) :
    (Instr.sliceAt t (.slice ad len cap) (lo.map a.eval) (hiO.map a.eval) none).run P w = .ok (.slice (if cap = l then ad else ad.map (·.add (l * ie.size))) (h - l) (cap - l)) w ∧ l ≤ h ∧ h ≤ len := by
  obtain ⟨ii, d, h3, h4, h5, _, _, _, _⟩ := tiOf_some hi
  obtain ⟨ij, d2, k3, k4, k5, k6, _, _, _⟩ := tiOf_some hie
  rw [hk] at h5
  have := kindOf_slice h5
  subst this
  obtain ⟨hrun, hlh, hhn⟩ := bounds_sound (P := P) (isSl := true) (w := w) hcap hρ hb
  refine ⟨?_, hlh, hhn⟩
  simp only [Instr.sliceAt, Instr.slice, Sem.run_bind, run_underlying h4, Result.andThen_ok, hrun, run_sizeOf k3, Sem.run_pure, k6]

theorem op_slice_nils {o : Oper} {t e : Nat} {x : Operand} {lo hiO : Option Operand} {i ie : TI} {l h : Nat} (hR : Rel C) (hρ : ∀ x, VR C (ρ x) (a.eval x)) (ho : o.op = .slice t x lo hiO none) (hi : tiOf P t = some i) (hk : i.kind = .slice e) (hie : tiOf P e = some ie)
    (hx : ρ x = .nils) (hb : boundsD 0 (optEv ρ lo) (optEv ρ hiO) = some (true, l, h)) : OutR P a o C .nils C.H := by
  have h1 := hρ x
  rw [hx] at h1
  generalize hax : a.eval x = ax at h1
  cases h1
  obtain ⟨hrun, h1, h2⟩ := run_slice_slice (w := C.w) (ad := none) (cap := 0) hi hk hie (Nat.le_refl _) hρ hb
  have e1 : l = 0 := by omega
  have e2 : h = 0 := by omega
  subst e1; subst e2
  refine OutR.same (cv := .slice none 0 0) hR ?_ .nils
  simp only [execOp, ho, hax, Sem.run_bind, Option.map_none, hrun, Result.andThen_ok, Sem.run_pure, if_true, Nat.sub_self]

theorem op_slice_sl {o : Oper} {t e : Nat} {x : Operand} {lo hiO : Option Operand} {i ie : TI} {ty : Ty} {xs : List ty.den} {l h : Nat} (hR : Rel C) (hρ : ∀ x, VR C (ρ x) (a.eval x)) (ho : o.op = .slice t x lo hiO none) (hi : tiOf P t = some i) (hk : i.kind = .slice e) (hie : tiOf P e = some ie)
    (hx : ρ x = .sl ty xs) (hsz : ty.size = ie.size) (hb : boundsD xs.length (optEv ρ lo) (optEv ρ hiO) = some (true, l, h)) : OutR P a o C (.sl ty ((xs.take h).drop l)) C.H := by
  have h1 := hρ x
  rw [hx] at h1
  generalize hax : a.eval x = ax at h1
  cases h1 with
  | sl0 _ ad cap =>
    obtain ⟨hrun, h1, h2⟩ := run_slice_slice (w := C.w) (ad := ad) (cap := cap) hi hk hie (Nat.zero_le _) hρ hb
    have e1 : l = 0 := by omega
    have e2 : h = 0 := by omega
    subst e1; subst e2
    refine OutR.same (cv := .slice (if cap = 0 then ad else ad.map (·.add (0 * ie.size))) 0 cap) hR ?_ (.sl0 _ _ _)
    simp only [execOp, ho, hax, Sem.run_bind, Option.map_none, hrun, Result.andThen_ok, Sem.run_pure, Nat.sub_zero]
  | sl _ _ b of cap c e fr hb1 hno hs hcap hc h1 =>
    obtain ⟨hrun, h2, h3⟩ := run_slice_slice (w := C.w) (ad := some ⟨b, of, none⟩) (cap := cap) hi hk hie hcap hρ hb
    have hlen : ((xs.take h).drop l).length = h - l := by simp; omega
    have hstep : (execOp a.eval o).run P C.w = .ok (.value (.slice (if cap = l then some ⟨b, of, none⟩ else (some (⟨b, of, none⟩ : Addr)).map (·.add (l * ie.size))) (h - l) (cap - l))) C.w := by
      simp only [execOp, ho, hax, Sem.run_bind, Option.map_none, hrun, Result.andThen_ok, Sem.run_pure]
    by_cases hhl : h = l
    · subst hhl
      have : (xs.take h).drop h = [] := List.eq_nil_of_length_eq_zero (by rw [hlen]; omega)
      rw [this]
      rw [Nat.sub_self] at hstep
      exact OutR.same hR hstep (.sl0 _ _ _)
    · rw [if_neg (by omega)] at hstep
      simp only [Option.map_some, add_none] at hstep
      have hmul : (h - l) * ty.size + l * ty.size ≤ xs.length * ty.size := by rw [← Nat.add_mul]; exact Nat.mul_le_mul_right _ (by omega)
      refine OutR.same hR hstep ?_
      have hg : VR C (.sl ty ((xs.take h).drop l)) (.slice (some ⟨b, of + l * ie.size, none⟩) ((xs.take h).drop l).length (cap - l)) := by
        refine .sl ty _ b _ (cap - l) c e fr hb1 hno ?_ (by rw [hlen]; omega) (fun j k hj hk => ?_) (fun j k hj hk => ?_)
        · rw [hlen, ← hsz]; omega
        · rw [hlen] at hj
          have hrd : rd ((xs.take h).drop l) j = rd xs (l + j) := by
            unfold rd
            rw [getD_drop, getD_take _ _ _ _ (by omega)]
          rw [hrd, ← hsz, show of + l * ty.size + j * ty.size + k = of + (l + j) * ty.size + k by rw [Nat.add_mul]; omega]
          exact hc _ k (by omega) hk
        · rw [hlen] at hj
          rw [← hsz, show of + l * ty.size + j * ty.size + k = of + (l + j) * ty.size + k by rw [Nat.add_mul]; omega]
          exact h1 _ k (by omega) hk
      rw [hlen] at hg
      exact hg

theorem op_slice_row {o : Oper} {t e n g : Nat} {sub : Option (Nat × Nat)} {x : Operand} {lo hiO : Option Operand} {i ie : TI} {rw : Bool} {ty : Ty} {xs : List ty.den} {l h : Nat} (hR : Rel C) (hρ : ∀ x, VR C (ρ x) (a.eval x)) (ho : o.op = .slice t x lo hiO none) (hi : tiOf P t = some i) (hk : i.kind = .slice e) (hie : tiOf P e = some ie)
    (hx : ρ x = .hsl n g sub) (hg : C.H.get n = some (.row rw ty xs g)) (hsz : ty.size = ie.size) (hb : boundsD (lenSub xs sub) (optEv ρ lo) (optEv ρ hiO) = some (true, l, h)) : OutR P a o C (.hsl n g (some (offSub sub + l, h - l))) C.H := by
  have h1 := hρ x
  rw [hx] at h1
  generalize hax : a.eval x = ax at h1
  cases h1 with
  | hsl _ _ _ ad len cap hn hcap hle hh =>
    obtain ⟨hl, hr⟩ := hh _ hg rfl
    have hlen : len = lenSub xs sub := by rw [hl]; cases sub <;> rfl
    subst hlen
    obtain ⟨hrun, h2, h3⟩ := run_slice_slice (w := C.w) (ad := ad) (cap := cap) hi hk hie hcap hρ hb
    have hoff : offSub sub + lenSub xs sub ≤ xs.length := by
      cases sub with
      | none => simp [offSub, lenSub]
      | some p => obtain ⟨o1, l1⟩ := p; exact hr.1
    refine OutR.same (cv := .slice (if cap = l then ad else ad.map (·.add (l * ie.size))) (h - l) (cap - l)) hR ?_ (.hsl _ _ _ _ _ _ hn (by omega) hle fun blk hb' hg' => ?_)
    · simp only [execOp, ho, hax, Sem.run_bind, Option.map_none, hrun, Result.andThen_ok, Sem.run_pure]
    · rw [hg] at hb'
      cases hb'
      refine ⟨rfl, ?_, fun hne => ?_⟩
      · simp only [lenOf]; omega
      · have hpos : lenSub xs sub ≠ 0 := by omega
        have hbase : ∃ b cp, C.η n = some (b, cp) ∧ ad = some ⟨b, offSub sub * ty.size, none⟩ := by
          cases sub with
          | none =>
            rcases hR.blocks n _ hg with ⟨he, hxs⟩ | ⟨b, cp, c, e, fr, he, _⟩
            · subst hxs; simp [lenSub] at hpos
            · simp only [he] at hr
              obtain ⟨rfl, rfl⟩ := hr
              exact ⟨b, _, he, by simp [offSub]⟩
          | some p =>
            obtain ⟨o1, l1⟩ := p
            obtain ⟨b, cp, he, rfl⟩ := hr.2 hpos
            exact ⟨b, cp, he, rfl⟩
        obtain ⟨b, cp, he, rfl⟩ := hbase
        refine ⟨b, cp, he, ?_⟩
        rw [if_neg (by omega)]
        simp only [Option.map_some, add_none, szOf, ← hsz, Nat.add_mul]

end Go.VI
