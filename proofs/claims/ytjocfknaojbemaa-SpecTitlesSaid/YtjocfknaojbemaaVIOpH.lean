/-
  Each operation does what the interpreter says: part H (maps).
-/
import Derived.Test.YtjocfknaojbemaaVIOpE
namespace Go.VI

variable {P : Program} {E : Env} {C : Cx} {a : Act} {ρ : Operand → A}

/-- Such data are told apart by their cells. -/
theorem fitK_beq : (κ : Ty) → ∀ {l r : List TK}, fitK κ l = some r → (∀ x y : κ.den, κ.beq x y = true ↔ x = y) ∧ κ.size + r.length = l.length ∧
    ∀ (x y : κ.den) (u v : List A), eqCells l (enc κ x ++ u) (enc κ y ++ v) = (eqCells r u v).map (κ.beq x y && ·)
  | .unit, l, r, h => by
    simp only [fitK, Option.some.injEq] at h
    subst h
    exact ⟨fun x y => by cases x; cases y; simp [Ty.beq], by simp [Ty.size], fun x y u v => by simp [enc, Ty.beq]⟩
  | .bool, l, r, h => by
    cases l with
    | nil => cases h
    | cons c l =>
    cases c <;> first | (cases h; done) | skip
    cases h
    refine ⟨fun x y => by simp [Ty.beq], by simp [Ty.size]; omega, fun x y u v => ?_⟩
    simp only [enc, List.cons_append, List.nil_append, eqCells, eqCell, Ty.beq]
    cases eqCells r u v <;> rfl
  | .int k, l, r, h => by
    cases l with
    | nil => cases h
    | cons c l =>
    cases c <;> first | (cases h; done) | skip
    rename_i j
    simp only [fitK] at h
    split at h
    · rename_i hkj
      subst hkj
      cases h
      refine ⟨fun x y => by simp [Ty.beq, ieq_eq], by simp [Ty.size]; omega, fun x y u v => ?_⟩
      simp only [enc, List.cons_append, List.nil_append, eqCells, eqCell, Ty.beq, if_true]
      cases eqCells r u v <;> rfl
    · cases h
  | .str, l, r, h => by
    cases l with
    | nil => cases h
    | cons c l =>
    cases c <;> first | (cases h; done) | skip
    cases h
    refine ⟨fun x y => by simp [Ty.beq], by simp [Ty.size]; omega, fun x y u v => ?_⟩
    simp only [enc, List.cons_append, List.nil_append, eqCells, eqCell, Ty.beq]
    cases eqCells r u v <;> rfl
  | .sl _, l, r, h => by cases h
  | .ref _, l, r, h => by cases h
  | .fn, l, r, h => by cases h
  | .nsl _, l, r, h => by cases h
  | .pair p q, l, r, h => by
    have h' : (match fitK p l with
      | some r => fitK q r
      | none => none) = some r := by
      exact h
    split at h'
    · rename_i m hm
      obtain ⟨p1, p2, p3⟩ := fitK_beq p hm
      obtain ⟨q1, q2, q3⟩ := fitK_beq q h'
      refine ⟨fun x y => ?_, by simp only [Ty.size]; omega, fun x y u v => ?_⟩
      · simp only [Ty.beq, Bool.and_eq_true, p1, q1]
        exact ⟨fun h => Prod.ext h.1 h.2, fun h => by rw [h]; exact ⟨rfl, rfl⟩⟩
      · simp only [enc, List.append_assoc, Ty.beq]
        rw [p3, q3]
        cases eqCells r u v <;> simp [Bool.and_assoc]
    · cases h'

/-- What is told of keys' types is so. -/
def KeyOk (P : Program) (K : TypeId → Option (List TK × Bool)) : Prop := ∀ t ks ag, K t = some (ks, ag) → flatK P 8 t = some ks ∧ isAggB P t = ag

theorem keyOk_some {K : TypeId → Option (List TK × Bool)} {kt : TypeId} {κ : Ty} {ka : Bool} (hK : KeyOk P K) (h : keyOk K kt κ ka = true) : ∃ ks, flatK P 8 kt = some ks ∧ fitK κ ks = some [] ∧ isAggB P kt = ka := by
  unfold keyOk at h
  split at h
  · rename_i ks ag hk
    obtain ⟨h1, h2⟩ := hK _ _ _ hk
    split at h
    · rename_i hf
      exact ⟨ks, h1, hf, by rw [h2]; simpa using h⟩
    · cases h
  · cases h

theorem fitK_eq {κ : Ty} {ks : List TK} (h : fitK κ ks = some []) (x y : κ.den) : eqCells ks (enc κ x) (enc κ y) = some (κ.beq x y) := by
  have := (fitK_beq κ h).2.2 x y [] []
  simpa [eqCells] using this

theorem valOf_cells {kt : TypeId} {v : Value} {ka : Bool} (hk : isAggB P kt = ka) (h : if ka then ∃ c, v = .agg c else oneC v) : valOf P kt v.cells.toList = v := by
  unfold valOf
  rw [hk]
  cases ka with
  | true =>
    simp only [if_true] at h
    obtain ⟨c, rfl⟩ := h
    simp [Value.cells]
  | false =>
    simp only [Bool.false_eq_true, if_false] at h
    cases v <;> first | rfl | (exfalso; revert h; simp [oneC, Value.oneCell'])

theorem full_VRv {x : A} {v : Value} {cs : List A} (h : VR C x v) (hf : x.full = some cs) : VRv C x.isAgg cs v := by
  refine ⟨full_VRs h hf, ?_⟩
  cases h <;> simp_all [A.full, A.isAgg, oneC, Value.oneCell']

/-- A key of such a type may be asked for. -/
theorem checkKey_sound : ∀ (d : Nat) {t : TypeId} {ks : List TK}, flatK P d t = some ks → ∀ {D : Nat}, d ≤ D → ∀ {emp : Bool} {c : List Value} {w : World}, c.length = ks.length →
    (Instr.checkKey emp D t (valOf P t c)).run P w = .ok () w
  | 0, t, ks, h, _, _, _, _, _, _ => by simp [flatK] at h
  | d + 1, t, ks, h, D, hD, emp, c, w, hl => by
    obtain ⟨D, rfl⟩ : ∃ k, D = k + 1 := ⟨D - 1, by omega⟩
    unfold flatK at h
    unfold Instr.checkKey
    split at h
    · rename_i hu
      simp only [Sem.run_bind, run_underlying hu, Result.andThen_ok, Sem.run_pure]
    · rename_i k hu
      simp only [Sem.run_bind, run_underlying hu, Result.andThen_ok, Sem.run_pure]
    · rename_i hu
      simp only [Sem.run_bind, run_underlying hu, Result.andThen_ok, Sem.run_pure]
    · rename_i fs hu
      split at h
      · cases h
      · have hag : isAggB P t = true := by simp [isAggB, hu]
        simp only [valOf, hag, if_true, Sem.run_bind, run_underlying hu, Result.andThen_ok]
        have key : ∀ (l : List Field) (o : Nat) (ks : List TK), flatF P (flatK P d) o l = some ks → c.length = o + ks.length →
            ((forIn l PUnit.unit fun f _ => if f.name ≠ "_" then (do Instr.checkKey emp D f.type (← part f.type c.toArray f.offset); pure (ForInStep.yield PUnit.unit)) else pure (ForInStep.yield PUnit.unit) : Sem PUnit)).run P w = .ok PUnit.unit w := by
          intro l
          induction l with
          | nil => intro o ks _ _; simp [Sem.run_pure]
          | cons f r ih =>
            intro o ks hf hlen0
            simp only [flatF] at hf
            split at hf
            case isFalse => cases hf
            rename_i hc
            simp only [Bool.and_eq_true, bne_iff_ne, ne_eq] at hc
            obtain ⟨ho, hname, hinfo⟩ := hc
            have ho' := Nat.eq_of_beq_eq_true ho
            split at hf
            case h_2 => cases hf
            rename_i l1 hl1
            split at hf
            case isFalse => cases hf
            rename_i hlen
            have hlen' := Nat.eq_of_beq_eq_true hlen
            split at hf
            case h_2 => cases hf
            rename_i m hm
            cases hf
            obtain ⟨fi, hfi⟩ := Option.isSome_iff_exists.1 hinfo
            have hcf : P.cellsOf f.type = fi.size := by simp [Program.cellsOf, hfi]
            simp only [List.length_append] at hlen0
            have hun : ∃ du, P.underlying f.type = some du := by
              cases d with
              | zero => simp [flatK] at hl1
              | succ d => unfold flatK at hl1; split at hl1 <;> first | exact ⟨_, by assumption⟩ | cases hl1
            obtain ⟨du, hdu⟩ := hun
            have hpos : isAggB P f.type = false → 0 < fi.size := fun hna => by
              cases d with
              | zero => simp [flatK] at hl1
              | succ d =>
                unfold flatK at hl1
                split at hl1
                · cases hl1; simp at hlen'; omega
                · cases hl1; simp at hlen'; omega
                · cases hl1; simp at hlen'; omega
                · rename_i hh; simp [isAggB, hh] at hna
                · cases hl1
            have p1 : (part f.type c.toArray f.offset).run P w = .ok (valOf P f.type ((c.drop f.offset).take fi.size)) w := run_part (c := c.toArray) hfi hdu (by simp; omega) hpos
            have p2 := checkKey_sound d hl1 (D := D) (by omega) (emp := emp) (c := (c.drop f.offset).take fi.size) (w := w) (by simp; omega)
            rw [List.forIn_cons]
            simp only [ne_eq, hname, not_false_eq_true, if_true, Sem.run_bind, p1, p2, Result.andThen_ok, Sem.run_pure]
            exact ih _ m hm (by omega)
        have := key fs.toList 0 ks h (by omega)
        rw [← Array.forIn_toList]
        simp only [ne_eq] at this
        simp only [ne_eq, this, Result.andThen_ok, Sem.run_pure]
    · cases h

/-- The first entry of a key. -/
def firstAt (f : MapEntry → Bool) : List MapEntry → Nat → Option (Nat × Value)
  | [], _ => none
  | e :: r, i => if f e then some (i, e.val) else firstAt f r (i + 1)

theorem findKey_sound {kt : TypeId} {k : Value} {w : World} {d : TypeDesc} (hu : P.underlying kt = some d) (f : MapEntry → Bool) (es : List MapEntry)
    (h1 : ∀ e ∈ es, (Op.equal kt k e.key).run P w = .ok (f e) w) (h2 : ∀ e ∈ es, ∀ b, Instr.sameNow d k e.key = some b → b = f e) :
    (Instr.findKey kt k es).run P w = .ok (firstAt f es 0) w := by
  have a1 : ∀ (l : List MapEntry) (i : Nat), (∀ e ∈ l, (Op.equal kt k e.key).run P w = .ok (f e) w) → (Instr.findAsking kt k l i).run P w = .ok (firstAt f l i) w := by
    intro l
    induction l with
    | nil => intro i _; simp [Instr.findAsking, firstAt, Sem.run_pure]
    | cons e r ih =>
      intro i h
      simp only [Instr.findAsking, Sem.run_bind, h e (by simp), Result.andThen_ok, firstAt, Sem.run_ite]
      cases f e
      · simpa using ih (i + 1) fun e he => h e (by simp [he])
      · simp [Sem.run_pure]
  have a2 : ∀ (l : List MapEntry) (i : Nat) r, (∀ e ∈ l, ∀ b, Instr.sameNow d k e.key = some b → b = f e) → Instr.findNow d k l i = some r → r = firstAt f l i := by
    intro l
    induction l with
    | nil => intro i r _ h; simp only [Instr.findNow, Option.some.injEq] at h; exact h.symm
    | cons e l ih =>
      intro i r h hr
      unfold Instr.findNow at hr
      split at hr
      · rename_i hs
        have := h e (by simp) _ hs
        cases hr
        simp [firstAt, ← this]
      · rename_i hs
        have := h e (by simp) _ hs
        rw [ih (i + 1) r (fun e he => h e (by simp [he])) hr]
        simp [firstAt, ← this]
      · cases hr
  unfold Instr.findKey
  simp only [Sem.run_bind, run_underlying hu, Result.andThen_ok]
  cases hn : Instr.findNow d k es 0 with
  | some r =>
    simp only [Sem.run_pure]
    rw [a2 es 0 r h2 hn]
  | none => exact a1 es 0 h1

theorem perm_map {α β : Type} (f : α → β) : ∀ (l : List β) (es : List α), l.Perm (es.map f) → ∃ l' : List α, l'.Perm es ∧ l = l'.map f
  | [], es, h => by
    have : es = [] := by
      have := h.length_eq
      simp at this
      exact List.eq_nil_of_length_eq_zero this.symm
    subst this
    exact ⟨[], .refl _, rfl⟩
  | b :: l, es, h => by
    have hb : b ∈ es.map f := h.subset (by simp)
    obtain ⟨e, he, rfl⟩ := List.mem_map.1 hb
    obtain ⟨s, t, rfl⟩ := List.append_of_mem he
    have h1 : (f e :: l).Perm (f e :: (s ++ t).map f) := h.trans (by simp)
    obtain ⟨l', h2, rfl⟩ := perm_map f l (s ++ t) (List.perm_cons _ |>.1 h1)
    exact ⟨e :: l', (h2.cons e).trans List.perm_middle.symm, rfl⟩

/-- A map's entries as typed data, in the order that they have. -/
structure TMap (C : Cx) (ka va : Bool) (κ ν : Ty) (l : List (κ.den × ν.den)) (me : Array MapEntry) : Prop where
  size : l.length = me.size
  ent : ∀ i (h : i < me.size) (h' : i < l.length), VRv C ka (enc κ l[i].1) me[i].key ∧ VRv C va (enc ν l[i].2) me[i].val

theorem tmap_open {ka va : Bool} {κ ν : Ty} {es : List (κ.den × ν.den)} {me : Array MapEntry} {clock : Nat} (h : MapR C ka va (es.map fun e => (enc κ e.1, enc ν e.2)) me clock) :
    ∃ l : List (κ.den × ν.den), l.Perm es ∧ TMap C ka va κ ν l me ∧ (me.toList.map (·.born)).Nodup ∧ ∀ e ∈ me.toList, e.born < clock := by
  obtain ⟨⟨l, h1, h2, h3⟩, h4, h5⟩ := h
  obtain ⟨l', h6, rfl⟩ := perm_map _ l es h1
  refine ⟨l', h6, ⟨by simpa using h2, fun i hi hi' => ?_⟩, h4, h5⟩
  have := h3 i hi
  simp only [List.getD_eq_getElem?_getD, List.getElem?_map, List.getElem?_eq_getElem hi', Option.map_some, Option.getD_some] at this
  exact this

theorem tmap_close {ka va : Bool} {κ ν : Ty} {l es : List (κ.den × ν.den)} {me : Array MapEntry} {clock : Nat} (hp : l.Perm es) (ht : TMap C ka va κ ν l me) (h4 : (me.toList.map (·.born)).Nodup) (h5 : ∀ e ∈ me.toList, e.born < clock) :
    MapR C ka va (es.map fun e => (enc κ e.1, enc ν e.2)) me clock := by
  refine ⟨⟨l.map fun e => (enc κ e.1, enc ν e.2), hp.map _, by simpa using ht.size, fun i hi => ?_⟩, h4, h5⟩
  have hi' : i < l.length := by rw [ht.size]; exact hi
  have := ht.ent i hi hi'
  simp only [List.getD_eq_getElem?_getD, List.getElem?_map, List.getElem?_eq_getElem hi', Option.map_some, Option.getD_some]
  exact this

/-- What the search for a key finds. -/
theorem firstAt_spec (f : MapEntry → Bool) : ∀ (l : List MapEntry) (i : Nat), (firstAt f l i = none ∧ ∀ e ∈ l, f e = false) ∨ ∃ j, ∃ h : j < l.length, firstAt f l i = some (i + j, l[j].val) ∧ f l[j] = true
  | [], i => .inl ⟨rfl, fun _ h => by cases h⟩
  | e :: r, i => by
    by_cases he : f e = true
    · exact .inr ⟨0, by simp, by simp [firstAt, he], he⟩
    · rcases firstAt_spec f r (i + 1) with ⟨h1, h2⟩ | ⟨j, h, h1, h2⟩
      · refine .inl ⟨by simp [firstAt, he, h1], fun x hx => ?_⟩
        rcases List.mem_cons.1 hx with rfl | hx
        · simpa using he
        · exact h2 x hx
      · exact .inr ⟨j + 1, by simp; omega, by simp [firstAt, he, h1]; omega, h2⟩

theorem sameNow_sound {kt : TypeId} {ks : List TK} {d : TypeDesc} {κ : Ty} {x y : κ.den} {vx vy : Value} {b : Bool} (hk : flatK P 8 kt = some ks) (hf : fitK κ ks = some []) (hu : P.underlying kt = some d)
    (hx : VRs C (enc κ x) vx.cells.toList) (hy : VRs C (enc κ y) vy.cells.toList) (h : Instr.sameNow d vx vy = some b) : b = κ.beq x y := by
  have hq := fitK_eq hf x y
  have one : ∀ {k : TK}, ks = [k] → ∃ u v, eqCell k u v = some (κ.beq x y) ∧ VR C u (vx.cells.toList.getD 0 undef) ∧ VR C v (vy.cells.toList.getD 0 undef) := fun hks => by
    subst hks
    exact single hx hy hq
  unfold flatK at hk
  simp only [hu] at hk
  unfold Instr.sameNow at h
  split at h
  · simp only [Option.some.injEq] at hk
    obtain ⟨u, v, h1, h2, h3⟩ := one hk.symm
    simp only [Value.cells, List.getD_cons_zero] at h2 h3
    split at h
    · cases h
      unfold eqCell at h1
      split at h1 <;> simp_all
      cases h2; cases h3
      rw [← h1.2, ieq_eq]
      rfl
    · cases h
  · simp only [Option.some.injEq] at hk
    obtain ⟨u, v, h1, h2, h3⟩ := one hk.symm
    simp only [Value.cells, List.getD_cons_zero] at h2 h3
    cases h
    unfold eqCell at h1
    split at h1 <;> simp_all
    cases h2 with
    | str _ s1 e1 =>
    cases h3 with
    | str _ s2 e2 =>
    rw [← h1, ← (str_toList e1).1, ← (str_toList e2).1]
    first | exact beq_toListBytes .. | exact (beq_toListBytes ..).symm
  · simp only [Option.some.injEq] at hk
    obtain ⟨u, v, h1, h2, h3⟩ := one hk.symm
    simp only [Value.cells, List.getD_cons_zero] at h2 h3
    cases h
    unfold eqCell at h1
    split at h1 <;> simp_all
    cases h2; cases h3
    simp_all
  · cases h

theorem look_none {κ ν : Ty} {es : List (κ.den × ν.den)} {key : κ.den} (hb : ∀ x y : κ.den, κ.beq x y = true ↔ x = y) (h : ∀ e ∈ es, e.1 ≠ key) : look es key = none := by
  unfold look
  rw [List.find?_eq_none.2 fun e he hh => h e he ((hb _ _).1 hh)]
  rfl

theorem look_some {κ ν : Ty} {es : List (κ.den × ν.den)} {e : κ.den × ν.den} (hb : ∀ x y : κ.den, κ.beq x y = true ↔ x = y) (hp : es.Pairwise (fun x y => κ.beq x.1 y.1 = false)) (he : e ∈ es) : look es e.1 = some e.2 := by
  unfold look
  induction es with
  | nil => cases he
  | cons x r ih =>
    rw [List.pairwise_cons] at hp
    rcases List.mem_cons.1 he with rfl | he
    · rw [List.find?_cons_of_pos (by exact (hb _ _).2 rfl)]
      rfl
    · rw [List.find?_cons_of_neg (by rw [hp.1 e he]; simp)]
      exact ih hp.2 he

/-- The search for a key in a map of typed data. -/
theorem search_sound {kt : TypeId} {κ ν : Ty} {ka va : Bool} {ks : List TK} {d : TypeDesc} {l es : List (κ.den × ν.den)} {me : Array MapEntry} {key : κ.den} {vk : Value} (hk : flatK P 8 kt = some ks) (hf : fitK κ ks = some []) (hag : isAggB P kt = ka) (hu : P.underlying kt = some d)
    (hp : l.Perm es) (ht : TMap C ka va κ ν l me) (hd : es.Pairwise (fun x y => κ.beq x.1 y.1 = false)) (hv : VRv C ka (enc κ key) vk) :
    (∀ w : World, (Instr.findKey kt vk me.toList).run P w = .ok none w) ∧ look es key = none ∧ (∀ e ∈ es, e.1 ≠ key) ∨
    ∃ i, ∃ h : i < me.size, ∃ h' : i < l.length, (∀ w : World, (Instr.findKey kt vk me.toList).run P w = .ok (some (i, me[i].val)) w) ∧ l[i].1 = key ∧ look es key = some l[i].2 := by
  have hb := (fitK_beq κ hf).1
  have heq : ∀ (v : Value) (y : κ.den), VRv C ka (enc κ y) v → ∀ w : World, (Op.equal kt vk v).run P w = .ok (κ.beq key y) w := fun v y hy w => by
    have := equalIn_sound (D := 10000) (w := w) 8 hk (by omega) hv.1 hy.1 (fitK_eq hf key y)
    rw [valOf_cells hag hv.2, valOf_cells hag hy.2] at this
    exact this
  have hsn : ∀ (v : Value) (y : κ.den), VRv C ka (enc κ y) v → ∀ b, Instr.sameNow d vk v = some b → b = κ.beq key y := fun v y hy b h => sameNow_sound hk hf hu hv.1 hy.1 h
  classical
  let f : MapEntry → Bool := fun e => decide (∃ y, VRv C ka (enc κ y) e.key ∧ κ.beq key y = true)
  have hfe : ∀ (e : MapEntry) (y : κ.den), VRv C ka (enc κ y) e.key → f e = κ.beq key y := fun e y hy => by
    cases hby : κ.beq key y with
    | true => exact decide_eq_true ⟨y, hy, hby⟩
    | false =>
      refine decide_eq_false fun ⟨z, hz, hbz⟩ => ?_
      have h1 := heq _ y hy C.w
      have h2 := heq _ z hz C.w
      rw [h1, hby, hbz] at h2
      cases h2
  have hen : ∀ e ∈ me.toList, ∃ y : κ.den, VRv C ka (enc κ y) e.key ∧ ∃ v : ν.den, (y, v) ∈ l := fun e he => by
    obtain ⟨i, hi, rfl⟩ := List.getElem_of_mem he
    simp only [Array.length_toList] at hi
    have hi' : i < l.length := by rw [ht.size]; exact hi
    exact ⟨l[i].1, by simpa using (ht.ent i hi hi').1, l[i].2, List.getElem_mem hi'⟩
  have hfind : ∀ w : World, (Instr.findKey kt vk me.toList).run P w = .ok (firstAt f me.toList 0) w := fun w => by
    refine findKey_sound hu f _ (fun e he => ?_) (fun e he b hb => ?_)
    · obtain ⟨y, hy, _⟩ := hen e he
      rw [hfe e y hy]
      exact heq _ y hy w
    · obtain ⟨y, hy, _⟩ := hen e he
      rw [hfe e y hy]
      exact hsn _ y hy b hb
  rcases firstAt_spec f me.toList 0 with ⟨h1, h2⟩ | ⟨j, hj, h1, h2⟩
  · have hne : ∀ e ∈ es, e.1 ≠ key := fun e he hk' => by
      have hel : e ∈ l := hp.symm.subset he
      obtain ⟨i, hi, rfl⟩ := List.getElem_of_mem hel
      have hi2 : i < me.size := by rw [← ht.size]; exact hi
      have h3 := h2 me[i] (by simp)
      rw [hfe me[i] l[i].1 (ht.ent i hi2 hi).1] at h3
      have := (hb key l[i].1).2 hk'.symm
      rw [this] at h3
      cases h3
    exact .inl ⟨fun w => by rw [hfind, h1], look_none hb hne, hne⟩
  · simp only [Array.length_toList] at hj
    have hj' : j < l.length := by rw [ht.size]; exact hj
    simp only [Array.getElem_toList, Nat.zero_add] at h1 h2
    rw [hfe me[j] l[j].1 (ht.ent j hj hj').1] at h2
    have hkey := (hb _ _).1 h2
    refine .inr ⟨j, hj, hj', fun w => by rw [hfind, h1], hkey.symm, ?_⟩
    rw [hkey]
    exact look_some hb hd (hp.subset (List.getElem_mem hj'))

end Go.VI
