/-
  What is read as typed data, and written no more from then on.
-/
import Derived.Test.YtjocfknaojbemaaVIRel
namespace Go.VI

def freezeB : Blk → Blk
  | .dead => .dead
  | .cells _ cs => .cells false cs
  | .row _ t xs g => .row false t xs g
  | .urow _ sz cs g => .urow false sz cs g
  | .tmap _ ka va k v es => .tmap false ka va k v es
  | .amap _ es => .amap false es
  | .siter s p => .siter s p

theorem freezeB_freezeB (b : Blk) : freezeB (freezeB b) = freezeB b := by cases b <;> rfl
theorem genOf_freezeB (b : Blk) : genOf (freezeB b) = genOf b := by cases b <;> rfl
theorem lenOf_freezeB (b : Blk) : lenOf (freezeB b) = lenOf b := by cases b <;> rfl
theorem szOf_freezeB (b : Blk) : szOf (freezeB b) = szOf b := by cases b <;> rfl
theorem blockOf_freezeB (C : Cx) (n : Nat) (b : Blk) : blockOf C n (freezeB b) = blockOf C n b := by cases b <;> rfl
theorem rwOf_freezeB {b : Blk} (h : rwOf (freezeB b) = true) : rwOf b = true ∧ freezeB b = b := by cases b <;> simp_all [rwOf, freezeB]

/-- The same, but that some blocks are written no more. -/
structure Frz (C C1 : Cx) : Prop where
  w : C1.w = C.w
  ρ : C1.ρ = C.ρ
  η : C1.η = C.η
  next : C1.H.next = C.H.next
  hid : C1.hid = C.hid
  get : ∀ n, C1.H.get n = C.H.get n ∨ ∃ blk, C.H.get n = some blk ∧ C1.H.get n = some (freezeB blk)

theorem Frz.refl (C : Cx) : Frz C C := ⟨rfl, rfl, rfl, rfl, rfl, fun _ => .inl rfl⟩
theorem Frz.trans {A B C : Cx} (h : Frz A B) (k : Frz B C) : Frz A C where
  w := k.w.trans h.w
  ρ := k.ρ.trans h.ρ
  η := k.η.trans h.η
  next := k.next.trans h.next
  hid := k.hid.trans h.hid
  get n := by
    rcases k.get n with k1 | ⟨b, k1, k2⟩
    · rcases h.get n with h1 | ⟨b, h1, h2⟩
      · exact .inl (k1.trans h1)
      · exact .inr ⟨b, h1, k1.trans h2⟩
    · rcases h.get n with h1 | ⟨b', h1, h2⟩
      · exact .inr ⟨b, h1 ▸ k1, k2⟩
      · rw [h2] at k1
        cases k1
        exact .inr ⟨b', h1, by rw [k2, freezeB_freezeB]⟩

theorem Frz.blockOf {C C1 : Cx} (h : Frz C C1) (n : Nat) (b : Blk) : blockOf C1 n b = blockOf C n b := by
  cases b <;> simp [VI.blockOf, h.ρ, h.η]

/-- What a name holds there held, with the same right to be written, ahead of it. -/
theorem Frz.rw {C C1 : Cx} (h : Frz C C1) {n : Nat} {x : Blk} (hx : C1.H.get n = some x) (hr : rwOf x = true) : C.H.get n = some x := by
  rcases h.get n with h1 | ⟨b, h1, h2⟩
  · rw [← h1]; exact hx
  · rw [h2] at hx
    cases hx
    rw [(rwOf_freezeB hr).2]
    exact h1
theorem Frz.was {C C1 : Cx} (h : Frz C C1) {n : Nat} {x : Blk} (hx : C1.H.get n = some x) : ∃ y, C.H.get n = some y ∧ (x = y ∨ x = freezeB y) := by
  rcases h.get n with h1 | ⟨b, h1, h2⟩
  · exact ⟨x, by rw [← h1]; exact hx, .inl rfl⟩
  · exact ⟨b, h1, .inr (by rw [h2] at hx; cases hx; rfl)⟩

theorem Frz.own {C C1 : Cx} (h : Frz C C1) {b : Nat} (ho : C1.own b) : C.own b := by
  rcases ho with ho | ⟨n, blk, h1, h2, h3⟩
  · exact .inl (by rw [← h.hid]; exact ho)
  · exact .inr ⟨n, blk, h.rw h1 h2, h2, by rw [← h.blockOf]; exact h3⟩

theorem Frz.step {C C1 : Cx} (h : Frz C C1) : Step C C1 where
  next := Nat.le_of_eq h.next.symm
  ρ n b hb := by rw [h.ρ]; exact hb
  rows n blk' g _ hb hg := by
    obtain ⟨y, hy, rfl | rfl⟩ := h.was hb
    · exact ⟨_, g, hy, hg, Nat.le_refl _, fun _ => ⟨rfl, rfl, by rw [h.η]⟩⟩
    · exact ⟨y, g, hy, by rw [← genOf_freezeB]; exact hg, Nat.le_refl _, fun _ => ⟨lenOf_freezeB y, szOf_freezeB y, by rw [h.η]⟩⟩
  size := by rw [h.w]; exact Nat.le_refl _
  frame b _ _ := by rw [h.w]
  own b hb := .inl (h.own hb)
  hid b hb := by rw [h.hid]; exact hb
  dead n _ hg := by
    refine ⟨?_, by rw [h.ρ]⟩
    rcases h.get n with h1 | ⟨blk, h1, _⟩
    · rw [h1]; exact hg
    · rw [hg] at h1; cases h1
  hframe b _ _ := by rw [h.w]
  os := by rw [h.w]
  tape := by rw [h.w]
  output := by rw [h.w]

theorem BlkR.freeze {C : Cx} {n : Nat} {b : Blk} (h : BlkR C n b) : BlkR C n (freezeB b) := by cases b <;> exact h

/-- What a block is seen as stays so, where its own place in memory does. -/
theorem BlkR.keep {C C1 : Cx} (h : StepV C C1) {n : Nat} {b : Blk} (hb : BlkR C n b) (hη : C1.η n = C.η n)
    (hw : ∀ k o, VI.blockOf C n b = some k → C.w.heap[k]? = some o → C1.w.heap[k]? = some o) : BlkR C1 n b := by
  cases b with
  | dead => trivial
  | cells rw cs =>
    obtain ⟨b, c, e, fr, h1, h2, h3, h4⟩ := hb
    exact ⟨b, c, e, fr, h.ρ n b h1, hw b _ h1 h2, h3.keep h, h4⟩
  | row rw t xs g =>
    rcases hb with ⟨h1, h2⟩ | ⟨b, cap, c, e, fr, h1, h2, h3, h4, h5, h6, h7⟩
    · exact .inl ⟨hη.trans h1, h2⟩
    · exact .inr ⟨b, cap, c, e, fr, hη.trans h1, hw b _ (by simp [VI.blockOf, h1]) h2, h3, h4, h5, fun i j hi hj => (h6 i j hi hj).keep h, h7⟩
  | urow rw sz cs g =>
    obtain ⟨h0, b, cap, c, e, fr, h1, h2, h3, h4, h5, h6, h7, h8⟩ := hb
    exact ⟨h0, b, cap, c, e, fr, hη.trans h1, hw b _ (by simp [VI.blockOf, h1]) h2, h3, h4, h5, h6, fun i hi => (h7 i hi).keep h, h8⟩
  | tmap rw ka va κ ν es =>
    obtain ⟨b, me, clock, h1, h2, h3, h4⟩ := hb
    exact ⟨b, me, clock, h.ρ n b h1, hw b _ h1 h2, h3.keep h, h4⟩
  | amap rw es =>
    obtain ⟨b, me, clock, h1, h2, ka, va, h3⟩ := hb
    exact ⟨b, me, clock, h.ρ n b h1, hw b _ h1 h2, ka, va, h3.keep h⟩
  | siter s p => exact hb

theorem Frz.rel {C C1 : Cx} (h : Frz C C1) (hR : Rel C) : Rel C1 where
  names n hn := by
    rw [h.next] at hn
    obtain ⟨h1, h2⟩ := hR.names n hn
    refine ⟨?_, by rw [h.ρ]; exact h2⟩
    rcases h.get n with g | ⟨b, g, _⟩
    · rw [g]; exact h1
    · rw [h1] at g; cases g
  blocks n blk hb := by
    obtain ⟨y, hy, rfl | rfl⟩ := h.was hb
    · exact (hR.blocks n _ hy).keep h.step (by rw [h.η]) (fun k o _ ho => by rw [h.w]; exact ho)
    · exact ((hR.blocks n y hy).freeze).keep h.step (by rw [h.η]) (fun k o _ ho => by rw [h.w]; exact ho)
  dist n m x y b hx hy hr h1 h2 := by
    obtain ⟨y', hy', e⟩ := h.was hy
    refine hR.dist n m x y' b (h.rw hx hr) hy' hr (by rw [← h.blockOf]; exact h1) ?_
    rw [h.blockOf] at h2
    rcases e with rfl | rfl
    · exact h2
    · rw [blockOf_freezeB] at h2; exact h2
  hid b hb := by
    rw [h.hid] at hb
    obtain ⟨h1, h2⟩ := hR.hid b hb
    refine ⟨by rw [h.w]; exact h1, fun n x hx => ?_⟩
    rw [h.blockOf]
    obtain ⟨y, hy, rfl | rfl⟩ := h.was hx
    · exact h2 n _ hy
    · rw [blockOf_freezeB]; exact h2 n _ hy

theorem get_set (H : Heap) (n m : Nat) (b : Blk) : (H.set n b).get m = if n = m then some b else H.get m := luk_cons n b H.bs m

theorem Frz.set {C : Cx} {n : Nat} {b : Blk} (hb : C.H.get n = some b) : Frz C { C with H := C.H.set n (freezeB b) } where
  w := rfl
  ρ := rfl
  η := rfl
  next := rfl
  hid := rfl
  get m := by
    show (C.H.set n (freezeB b)).get m = _ ∨ ∃ blk, _ ∧ (C.H.set n (freezeB b)).get m = _
    rw [get_set]
    by_cases h : n = m
    · subst h; exact .inr ⟨b, hb, by rw [if_pos rfl]⟩
    · rw [if_neg h]; exact .inl rfl

theorem enc_length : (t : Ty) → (x : t.den) → (enc t x).length = t.size
  | .unit, _ => rfl
  | .bool, _ => rfl
  | .int _, _ => rfl
  | .str, _ => rfl
  | .sl _, _ => rfl
  | .pair a b, x => by simp [enc, Ty.size, enc_length a, enc_length b]
  | .ref _, none => rfl
  | .ref _, some _ => rfl
  | .fn, none => rfl
  | .fn, some _ => rfl
  | .nsl _, none => rfl
  | .nsl _, some _ => rfl

theorem getD_take {α : Type} (l : List α) (n i : Nat) (d : α) (h : i < n) : (l.take n).getD i d = l.getD i d := by
  simp [List.getD_eq_getElem?_getD, h]
theorem getD_drop {α : Type} (l : List α) (n i : Nat) (d : α) : (l.drop n).getD i d = l.getD (n + i) d := by
  simp [List.getD_eq_getElem?_getD, List.getElem?_drop]
theorem getD_append_left {α : Type} (l m : List α) (i : Nat) (d : α) (h : i < l.length) : (l ++ m).getD i d = l.getD i d := by
  simp [List.getD_eq_getElem?_getD, List.getElem?_append_left h]
theorem getD_append_right {α : Type} (l m : List α) (i : Nat) (d : α) (h : l.length ≤ i) : (l ++ m).getD i d = m.getD (i - l.length) d := by
  simp [List.getD_eq_getElem?_getD, List.getElem?_append_right h]

theorem VRs.drop {C : Cx} {l : List A} {c : List Value} (h : VRs C l c) (n : Nat) : VRs C (l.drop n) (c.drop n) := by
  refine ⟨by simp [h.1], fun i hi => ?_, fun i hi => ?_⟩ <;> rw [List.length_drop] at hi
  · rw [getD_drop, getD_drop]; exact h.2.1 _ (by omega)
  · rw [getD_drop]; exact h.2.2 _ (by omega)
theorem VRs.take {C : Cx} {l : List A} {c : List Value} (h : VRs C l c) (n : Nat) : VRs C (l.take n) (c.take n) := by
  refine ⟨by simp [h.1], fun i hi => ?_, fun i hi => ?_⟩ <;> rw [List.length_take] at hi
  · rw [getD_take _ _ _ _ (by omega), getD_take _ _ _ _ (by omega)]; exact h.2.1 _ (by omega)
  · rw [getD_take _ _ _ _ (by omega)]; exact h.2.2 _ (by omega)
theorem VRs.append {C : Cx} {l m : List A} {c d : List Value} (h : VRs C l c) (k : VRs C m d) : VRs C (l ++ m) (c ++ d) := by
  refine ⟨by simp [h.1, k.1], fun i hi => ?_, fun i hi => ?_⟩ <;> rw [List.length_append] at hi
  · by_cases hl : i < l.length
    · rw [getD_append_left _ _ _ _ hl, getD_append_left _ _ _ _ (by rw [h.1]; exact hl)]; exact h.2.1 i hl
    · rw [getD_append_right _ _ _ _ (by omega), getD_append_right _ _ _ _ (by rw [h.1]; omega), h.1]; exact k.2.1 _ (by omega)
  · by_cases hl : i < l.length
    · rw [getD_append_left _ _ _ _ (by rw [h.1]; exact hl)]; exact h.2.2 i hl
    · rw [getD_append_right _ _ _ _ (by rw [h.1]; omega), h.1]; exact k.2.2 _ (by omega)
theorem VRs.nil (C : Cx) : VRs C [] [] := ⟨rfl, fun _ h => absurd h (by simp), fun _ h => absurd h (by simp)⟩
theorem VRs.cons {C : Cx} {a : A} {l : List A} {v : Value} {c : List Value} (h : VR C a v) (h1 : oneC v) (k : VRs C l c) : VRs C (a :: l) (v :: c) := by
  refine ⟨by simp [k.1], fun i hi => ?_, fun i hi => ?_⟩
  · cases i with
    | zero => exact h
    | succ i => simp at hi; exact k.2.1 i (by omega)
  · cases i with
    | zero => exact h1
    | succ i => simp at hi; exact k.2.2 i (by omega)
theorem VRs.head {C : Cx} {a : A} {l : List A} {c : List Value} (h : VRs C (a :: l) c) : ∃ v r, c = v :: r ∧ VR C a v ∧ oneC v ∧ VRs C l r := by
  cases c with
  | nil => have := h.1; simp at this
  | cons v r =>
    refine ⟨v, r, rfl, h.2.1 0 (by simp), h.2.2 0 (by simp), ?_⟩
    have := h.drop 1
    simpa using this

theorem subOf_length {α : Type} (xs : List α) (o l : Nat) (h : o + l ≤ xs.length) : (subOf xs (some (o, l))).length = l := by
  simp [subOf]; omega
theorem rd_drop_take {t : Ty} (xs : List t.den) (o l i : Nat) (h : i < l) : rd ((xs.drop o).take l) i = rd xs (o + i) := by
  unfold rd
  rw [getD_take _ _ _ _ h, getD_drop]

/-- A row that is written no more, as typed data. -/
theorem VR.sl_of_hsl {C : Cx} (hR : Rel C) {n g : Nat} {sub : Option (Nat × Nat)} {v : Value} {rw : Bool} {t : Ty} {xs : List t.den}
    (hb : C.H.get n = some (.row rw t xs g)) (hv : VR C (.hsl n g sub) v) : VR { C with H := C.H.set n (.row false t xs g) } (.sl t (subOf xs sub)) v := by
  have hF : Frz C { C with H := C.H.set n (.row false t xs g) } := Frz.set hb
  cases hv with
  | hsl _ _ _ a len cap hn hcap hle h =>
    obtain ⟨h1, h2⟩ := h _ hb rfl
    have hrow := hR.blocks n _ hb
    by_cases he : subOf xs sub = []
    · rw [he]
      have : len = 0 := by
        cases sub with
        | none => simp only [subOf] at he; rw [h1]; simp [lenOf, he]
        | some p =>
          obtain ⟨o, l⟩ := p
          have h3 := h2.1
          simp only [lenOf] at h3
          have := subOf_length xs o l h3
          rw [he] at this
          rw [h1]; simpa using this.symm
      subst this
      exact .sl0 t a cap
    · rcases hrow with ⟨_, hx⟩ | ⟨b, cp, c, e, fr, h3, h4, h5, h6, h7, h8, h9⟩
      · exfalso; apply he; rw [hx]; cases sub <;> simp [subOf]
      · have hno : ¬ Cx.own { C with H := C.H.set n (.row false t xs g) } b := by
          rintro (hh | ⟨m, x, hm, hr, hbo⟩)
          · exact (hR.hid b hh).2 n _ hb (by simp [VI.blockOf, h3])
          have hm' := hF.rw hm hr
          have := hR.dist m n x _ b hm' hb hr (by rw [← hF.blockOf]; exact hbo) (by simp [VI.blockOf, h3])
          subst this
          have e1 : (C.H.set m (.row false t xs g)).get m = some x := hm
          rw [get_set, if_pos rfl] at e1
          cases e1
          cases hr
        cases sub with
        | none =>
          simp only [h3] at h2
          obtain ⟨rfl, rfl⟩ := h2
          have hl : len = xs.length := h1
          subst hl
          refine .sl t xs b 0 cap c e fr h4 hno ?_ hcap (fun i j hi hj => ?_) (fun i j hi hj => ?_)
          · have := Nat.mul_le_mul_right t.size h7; omega
          · rw [Nat.zero_add]; exact (h8 i j hi hj).keep hF.step
          · refine h9 _ ?_
            have h10 := Nat.mul_le_mul_right t.size h7
            have h11 : (i + 1) * t.size ≤ xs.length * t.size := Nat.mul_le_mul_right _ hi
            rw [Nat.add_mul] at h11
            omega
        | some p =>
          obtain ⟨o, l⟩ := p
          obtain ⟨h10, h11⟩ := h2
          have hl : len = l := h1
          subst hl
          have hlen := subOf_length xs o len h10
          have hl0 : len ≠ 0 := fun h0 => he (List.eq_nil_of_length_eq_zero (by rw [hlen, h0]))
          obtain ⟨b', cp', h12, rfl⟩ := h11 hl0
          rw [h3] at h12
          cases h12
          have hcapm := Nat.mul_le_mul_right t.size h7
          have key : ∀ i j, i < len → j < t.size → o * t.size + i * t.size + j = (o + i) * t.size + j := fun i j _ _ => by rw [Nat.add_mul]
          have bnd : ∀ i, i < len → (o + i + 1) * t.size ≤ xs.length * t.size := fun i hi => Nat.mul_le_mul_right _ (by have := h10; simp only [lenOf] at this; omega)
          have hgoal : VR { C with H := C.H.set n (.row false t xs g) } (.sl t (subOf xs (some (o, len)))) (.slice (some ⟨b, o * t.size, none⟩) (subOf xs (some (o, len))).length cap) := by
            refine .sl t _ b (o * t.size) cap c e fr h4 hno ?_ (by rw [hlen]; exact hcap) (fun i j hi hj => ?_) (fun i j hi hj => ?_)
            · rw [hlen, ← Nat.add_mul]
              have : (o + len) * t.size ≤ xs.length * t.size := Nat.mul_le_mul_right _ h10
              omega
            · rw [hlen] at hi
              rw [key i j hi hj]
              simp only [subOf]
              rw [rd_drop_take xs o len i hi]
              refine (h8 (o + i) j ?_ hj).keep hF.step
              have := h10; simp only [lenOf] at this; omega
            · rw [hlen] at hi
              rw [key i j hi hj]
              refine h9 _ ?_
              have := bnd i hi
              rw [Nat.add_mul] at this
              omega
          rw [hlen] at hgoal
          exact hgoal

/-- Under a heap that is spelt out. -/
def Cx.at (C : Cx) (H : Heap) : Cx := { C with H := H }

theorem decH_sound : (t : Ty) → ∀ {C : Cx} {l : List A} {c : List Value} {x : t.den} {r : List A} {H1 : Heap}, Rel C → VRs C l c → decH t C.H l = some (x, r, H1) →
    Frz C (C.at H1) ∧ VRs (C.at H1) (enc t x) (c.take t.size) ∧ r = l.drop t.size ∧ t.size ≤ l.length
  | .unit, C, l, c, x, r, H1, hR, hl, h => by
    simp only [decH, Option.some.injEq, Prod.mk.injEq] at h
    obtain ⟨_, rfl, rfl⟩ := h
    exact ⟨Frz.refl C, by simp only [Ty.size, List.take_zero]; exact VRs.nil _, by simp [Ty.size], by simp [Ty.size]⟩
  | .bool, C, l, c, x, r, H1, hR, hl, h => by
    simp only [decH] at h
    split at h
    · simp only [Option.some.injEq, Prod.mk.injEq] at h
      obtain ⟨rfl, rfl, rfl⟩ := h
      obtain ⟨v, r', rfl, h1, h2, h3⟩ := hl.head
      exact ⟨Frz.refl C, by simp only [enc, Ty.size, List.take_succ_cons, List.take_zero]; exact .cons h1 h2 (VRs.nil _), by simp [Ty.size], by simp [Ty.size]⟩
    · cases h
  | .int k, C, l, c, x, r, H1, hR, hl, h => by
    simp only [decH] at h
    split at h
    · split at h
      · rename_i hk
        subst hk
        simp only [Option.some.injEq, Prod.mk.injEq] at h
        obtain ⟨rfl, rfl, rfl⟩ := h
        obtain ⟨v, r', rfl, h1, h2, h3⟩ := hl.head
        exact ⟨Frz.refl C, by simp only [enc, Ty.size, List.take_succ_cons, List.take_zero]; exact .cons h1 h2 (VRs.nil _), by simp [Ty.size], by simp [Ty.size]⟩
      · cases h
    · cases h
  | .str, C, l, c, x, r, H1, hR, hl, h => by
    simp only [decH] at h
    split at h
    · simp only [Option.some.injEq, Prod.mk.injEq] at h
      obtain ⟨rfl, rfl, rfl⟩ := h
      obtain ⟨v, r', rfl, h1, h2, h3⟩ := hl.head
      exact ⟨Frz.refl C, by simp only [enc, Ty.size, List.take_succ_cons, List.take_zero]; exact .cons h1 h2 (VRs.nil _), by simp [Ty.size], by simp [Ty.size]⟩
    · cases h
  | .sl e, C, l, c, x, r, H1, hR, hl, h => by
    simp only [decH] at h
    split at h
    · simp only [Option.some.injEq, Prod.mk.injEq] at h
      obtain ⟨rfl, rfl, rfl⟩ := h
      obtain ⟨v, r', rfl, h1, h2, h3⟩ := hl.head
      refine ⟨Frz.refl C, ?_, by simp [Ty.size], by simp [Ty.size]⟩
      simp only [enc, Ty.size, List.take_succ_cons, List.take_zero]
      refine .cons ?_ h2 (VRs.nil _)
      cases h1
      exact .sl0 e none 0
    · split at h
      · rename_i he
        subst he
        simp only [Option.some.injEq, Prod.mk.injEq] at h
        obtain ⟨rfl, rfl, rfl⟩ := h
        obtain ⟨v, r', rfl, h1, h2, h3⟩ := hl.head
        exact ⟨Frz.refl C, by simp only [enc, Ty.size, List.take_succ_cons, List.take_zero]; exact .cons h1 h2 (VRs.nil _), by simp [Ty.size], by simp [Ty.size]⟩
      · cases h
    · split at h
      · rename_i n g sub r0 _ rw e' xs g' hg
        split at h
        · rename_i he
          subst he
          split at h
          · rename_i hg'
            subst hg'
            simp only [Option.some.injEq, Prod.mk.injEq] at h
            obtain ⟨rfl, rfl, rfl⟩ := h
            obtain ⟨v, r', rfl, h1, h2, h3⟩ := hl.head
            refine ⟨Frz.set hg, ?_, by simp [Ty.size], by simp [Ty.size]⟩
            simp only [enc, Ty.size, List.take_succ_cons, List.take_zero]
            exact .cons (VR.sl_of_hsl hR hg h1) h2 (VRs.nil _)
          · cases h
        · cases h
      · cases h
    · cases h
  | .fn, C, l, c, x, r, H1, hR, hl, h => by
    simp only [decH] at h
    split at h
    · simp only [Option.some.injEq, Prod.mk.injEq] at h
      obtain ⟨rfl, rfl, rfl⟩ := h
      obtain ⟨v, r', rfl, h1, h2, h3⟩ := hl.head
      exact ⟨Frz.refl C, by simp only [enc, Ty.size, List.take_succ_cons, List.take_zero]; exact .cons h1 h2 (VRs.nil _), by simp [Ty.size], by simp [Ty.size]⟩
    · simp only [Option.some.injEq, Prod.mk.injEq] at h
      obtain ⟨rfl, rfl, rfl⟩ := h
      obtain ⟨v, r', rfl, h1, h2, h3⟩ := hl.head
      exact ⟨Frz.refl C, by simp only [enc, Ty.size, List.take_succ_cons, List.take_zero]; exact .cons h1 h2 (VRs.nil _), by simp [Ty.size], by simp [Ty.size]⟩
    · cases h
  | .nsl e, C, l, c, x, r, H1, hR, hl, h => by
    simp only [decH] at h
    split at h
    · simp only [Option.some.injEq, Prod.mk.injEq] at h
      obtain ⟨rfl, rfl, rfl⟩ := h
      obtain ⟨v, r', rfl, h1, h2, h3⟩ := hl.head
      exact ⟨Frz.refl C, by simp only [enc, Ty.size, List.take_succ_cons, List.take_zero]; exact .cons h1 h2 (VRs.nil _), by simp [Ty.size], by simp [Ty.size]⟩
    · split at h
      · rename_i he
        subst he
        simp only [Option.some.injEq, Prod.mk.injEq] at h
        obtain ⟨rfl, rfl, rfl⟩ := h
        obtain ⟨v, r', rfl, h1, h2, h3⟩ := hl.head
        exact ⟨Frz.refl C, by simp only [enc, Ty.size, List.take_succ_cons, List.take_zero]; exact .cons h1 h2 (VRs.nil _), by simp [Ty.size], by simp [Ty.size]⟩
      · cases h
    · split at h
      · rename_i n g sub r0 _ rw e' xs g' hg
        split at h
        · rename_i he
          subst he
          split at h
          · rename_i hg'
            subst hg'
            simp only [Option.some.injEq, Prod.mk.injEq] at h
            obtain ⟨rfl, rfl, rfl⟩ := h
            obtain ⟨v, r', rfl, h1, h2, h3⟩ := hl.head
            refine ⟨Frz.set hg, ?_, by simp [Ty.size], by simp [Ty.size]⟩
            simp only [enc, Ty.size, List.take_succ_cons, List.take_zero]
            exact .cons (VR.sl_of_hsl hR hg h1) h2 (VRs.nil _)
          · cases h
        · cases h
      · cases h
    · cases h
  | .pair a b, C, l, c, x, r, H1, hR, hl, h => by
    simp only [decH] at h
    split at h
    · rename_i x1 r1 H2 ha
      obtain ⟨f1, v1, e1, s1⟩ := decH_sound a hR hl ha
      split at h
      · rename_i y r2 H3 hb
        simp only [Option.some.injEq, Prod.mk.injEq] at h
        obtain ⟨rfl, rfl, rfl⟩ := h
        subst e1
        obtain ⟨f2, v2, e2, s2⟩ := decH_sound b (C := C.at H2) (f1.rel hR) ((hl.keep f1.step).drop a.size) hb
        refine ⟨f1.trans f2, ?_, ?_, ?_⟩
        · simp only [enc, Ty.size]
          rw [List.take_add]
          exact (v1.keep f2.step.toStepV).append v2
        · rw [e2, List.drop_drop]; simp only [Ty.size]
        · rw [List.length_drop] at s2; simp only [Ty.size]; omega
      · cases h
    · cases h
  | .ref t, C, l, c, x, r, H1, hR, hl, h => by
    simp only [decH] at h
    split at h
    · simp only [Option.some.injEq, Prod.mk.injEq] at h
      obtain ⟨rfl, rfl, rfl⟩ := h
      obtain ⟨v, r', rfl, h1, h2, h3⟩ := hl.head
      exact ⟨Frz.refl C, by simp only [enc, Ty.size, List.take_succ_cons, List.take_zero]; exact .cons h1 h2 (VRs.nil _), by simp [Ty.size], by simp [Ty.size]⟩
    · rename_i cs r0
      split at h
      · rename_i y r2 H2 hd
        simp only [Option.some.injEq, Prod.mk.injEq] at h
        obtain ⟨rfl, rfl, rfl⟩ := h
        obtain ⟨v, r', rfl, h1, h2, h3⟩ := hl.head
        cases h1 with
        | iaddr _ b o ca e fr hb ho hs hc hone =>
          have hin : VRs C cs ((ca.toList.drop o).take cs.length) := by
            refine ⟨by simp; omega, fun i hi => ?_, fun i hi => ?_⟩
            · have := hc i hi
              rw [getD_take _ _ _ _ hi, getD_drop]
              simpa [Array.getD_eq_getD_getElem?, List.getD_eq_getElem?_getD] using this
            · have := hone i hi
              rw [getD_take _ _ _ _ hi, getD_drop]
              simpa [Array.getD_eq_getD_getElem?, List.getD_eq_getElem?_getD] using this
          obtain ⟨f1, v1, e1, s1⟩ := decH_sound t hR hin hd
          refine ⟨f1, ?_, by simp [Ty.size], by simp [Ty.size]⟩
          simp only [enc, Ty.size, List.take_succ_cons, List.take_zero]
          refine .cons ?_ h2 (VRs.nil _)
          have hl2 := enc_length t y
          refine .iaddr (enc t y) b o ca e fr hb (fun h' => ho (f1.own h')) (by omega) (fun j hj => ?_) (fun j hj => hone j (by omega))
          have := v1.2.1 j hj
          rw [getD_take _ _ _ _ (by omega), getD_take _ _ _ _ (by omega), getD_drop] at this
          simpa [Array.getD_eq_getD_getElem?, List.getD_eq_getElem?_getD] using this
      · cases h
    · rename_i n o r0
      split at h
      case isFalse => cases h
      rename_i ho0
      subst ho0
      split at h
      · rename_i rw cs hg
        split at h
        · rename_i y H2 hd
          simp only [Option.some.injEq, Prod.mk.injEq] at h
          obtain ⟨rfl, rfl, rfl⟩ := h
          obtain ⟨v, r', rfl, h1, h2, h3⟩ := hl.head
          cases h1 with
          | ptr _ _ b hρ =>
            obtain ⟨b', ca, e, fr, hb1, hb2, hb3, hb4⟩ := hR.blocks n _ hg
            rw [hρ] at hb1
            cases hb1
            have hin := hb3
            obtain ⟨f1, v1, e1, s1⟩ := decH_sound t hR hin hd
            have hlen : t.size = cs.length := by
              have : cs.length ≤ t.size := by
                have := congrArg List.length e1
                simp at this; omega
              omega
            have f2 : Frz C (C.at (H2.set n (.cells false cs))) := {
              w := rfl, ρ := rfl, η := rfl, next := f1.next, hid := rfl
              get := fun m => by
                show (H2.set n (.cells false cs)).get m = _ ∨ ∃ blk, _ ∧ (H2.set n (.cells false cs)).get m = _
                rw [get_set]
                by_cases hm : n = m
                · subst hm; exact .inr ⟨_, hg, by rw [if_pos rfl]; rfl⟩
                · rw [if_neg hm]; exact f1.get m }
            have f3 : Step (C.at H2) (C.at (H2.set n (.cells false cs))) := {
              next := Nat.le_refl _, ρ := fun _ _ h => h
              rows := fun m blk' g _ hb hgen => by
                have hb' : (H2.set n (.cells false cs)).get m = some blk' := hb
                rw [get_set] at hb'
                by_cases hm : n = m
                · rw [if_pos hm] at hb'; cases hb'; cases hgen
                · rw [if_neg hm] at hb'; exact ⟨blk', _, hb', hgen, Nat.le_refl _, fun _ => ⟨rfl, rfl, rfl⟩⟩
              size := Nat.le_refl _, frame := fun _ _ _ => rfl
              hid := fun _ h => h, hframe := fun _ _ _ => rfl
              dead := fun m _ hm => by
                refine ⟨?_, rfl⟩
                show (H2.set n (.cells false cs)).get m = none
                rw [get_set]
                by_cases hnm : n = m
                · exfalso
                  subst hnm
                  have hm : H2.get n = none := hm
                  rcases f1.get n with h1 | ⟨blk, _, h1⟩
                  · have h1 : H2.get n = C.H.get n := h1
                    rw [hm, hg] at h1; cases h1
                  · have h1 : H2.get n = _ := h1
                    rw [hm] at h1; cases h1
                · rw [if_neg hnm]; exact hm
              own := fun k hk => by
                rcases hk with hk | ⟨m, x, hm, hr, hbo⟩
                · exact .inl (.inl hk)
                have hm' : (H2.set n (.cells false cs)).get m = some x := hm
                rw [get_set] at hm'
                by_cases hnm : n = m
                · rw [if_pos hnm] at hm'; cases hm'; cases hr
                · rw [if_neg hnm] at hm'
                  refine .inl (.inr ⟨m, x, hm', hr, ?_⟩)
                  rw [← hbo]; cases x <;> rfl
              os := rfl, tape := rfl, output := rfl }
            refine ⟨f2, ?_, by simp [Ty.size], by simp [Ty.size]⟩
            simp only [enc, Ty.size, List.take_succ_cons, List.take_zero]
            refine .cons ?_ h2 (VRs.nil _)
            have hl2 := enc_length t y
            have hcs := hb3.1
            have hno : ¬ Cx.own (C.at (H2.set n (.cells false cs))) b := by
              rintro (hh | ⟨m, x, hm, hr, hbo⟩)
              · exact (hR.hid b hh).2 n _ hg (by simp [VI.blockOf, hρ])
              have hm' := f2.rw hm hr
              have := hR.dist m n x _ b hm' hg hr (by rw [← f2.blockOf]; exact hbo) (by simp [VI.blockOf, hρ])
              subst this
              have e1 : (H2.set m (.cells false cs)).get m = some x := hm
              rw [get_set, if_pos rfl] at e1
              cases e1
              cases hr
            refine .iaddr (enc t y) b 0 ca e fr hb2 hno (by simp at hlen hcs; omega) (fun j hj => ?_) (fun j hj => ?_)
            · have := (v1.2.1 j hj).keep f3.toStepV
              rw [getD_take _ _ _ _ (by omega)] at this
              rw [Nat.zero_add]
              simpa [Array.getD_eq_getD_getElem?, List.getD_eq_getElem?_getD] using this
            · have := hin.2.2 j (by omega)
              rw [Nat.zero_add]
              simpa [Array.getD_eq_getD_getElem?, List.getD_eq_getElem?_getD] using this
        · cases h
      · cases h
    · cases h

end Go.VI
