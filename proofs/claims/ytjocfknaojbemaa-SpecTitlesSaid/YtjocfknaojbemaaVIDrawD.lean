/-
  Blocks that are there, but not looked at yet.
-/
import Derived.Test.YtjocfknaojbemaaVIDrawC
namespace Go.VI

variable {P : Program} {E : Env} {R : Type} {all : Array Oper} {ps : List Pl} {m : Nat}

theorem StepV.trans {A B C : Cx} (h : StepV A B) (k : StepV B C) : StepV A C where
  next := Nat.le_trans h.next k.next
  ρ n b hb := k.ρ n b (h.ρ n b hb)
  rows n blk' g hn hg hgen := by
    obtain ⟨b1, g1, h1, hg1, le1, k1⟩ := k.rows n blk' g (Nat.lt_of_lt_of_le hn h.next) hg hgen
    obtain ⟨b2, g2, h2, hg2, le2, k2⟩ := h.rows n b1 g1 hn h1 hg1
    refine ⟨b2, g2, h2, hg2, Nat.le_trans le2 le1, fun e => ?_⟩
    obtain ⟨l1, s1, e1⟩ := k1 (by omega)
    obtain ⟨l2, s2, e2⟩ := k2 (by omega)
    exact ⟨l1.trans l2, s1.trans s2, e1.trans e2⟩
  size := Nat.le_trans h.size k.size
  frame b hb ho := by
    have h1 : ¬ B.own b := fun hb' => (h.own b hb').elim ho (fun h' => by omega)
    rw [k.frame b (Nat.lt_of_lt_of_le hb h.size) h1, h.frame b hb ho]
  own b hb := (k.own b hb).elim (fun h1 => h.own b h1) (fun h1 => .inr (Nat.le_trans h.size h1))

/-- A block of cells, or a map, that is the call's own. -/
def plainBlk : Blk → Prop
  | .cells true _ => True
  | .tmap true _ _ _ _ _ => True
  | .amap true _ => True
  | _ => False
theorem plain_rw {blk : Blk} (h : plainBlk blk) : rwOf blk = true ∧ genOf blk = none ∧ ∀ C n, blockOf C n blk = C.ρ n := by
  cases blk with
  | cells rw cs => cases rw <;> first | (cases h; done) | exact ⟨rfl, rfl, fun _ _ => rfl⟩
  | tmap rw ka va κ ν es => cases rw <;> first | (cases h; done) | exact ⟨rfl, rfl, fun _ _ => rfl⟩
  | amap rw es => cases rw <;> first | (cases h; done) | exact ⟨rfl, rfl, fun _ _ => rfl⟩
  | _ => cases h

/-- A new block that is hidden. -/
def Cx.lay (C : Cx) (nm : Nat) (o : Obj) : Cx where
  w := C.w.alloc o
  H := C.H
  ρ := fun n => if n = nm then some C.w.heap.size else C.ρ n
  η := C.η
  hid := fun b => C.hid b ∨ b = C.w.heap.size

theorem lay_bo {C : Cx} {nm : Nat} {o : Obj} {n : Nat} (x : Blk) (h : n ≠ nm) : blockOf (C.lay nm o) n x = blockOf C n x := by cases x <;> simp [blockOf, Cx.lay, h]

theorem Cx.lay_step {C : Cx} {nm : Nat} (o : Obj) (hg : C.H.get nm = none) (hρ : C.ρ nm = none) : StepV C (C.lay nm o) where
  next := Nat.le_refl _
  ρ n b hb := by
    have : n ≠ nm := fun h => by rw [h, hρ] at hb; cases hb
    simp [Cx.lay, this, hb]
  rows n blk g _ hb hgn := ⟨blk, g, hb, hgn, Nat.le_refl _, fun _ => ⟨rfl, rfl, rfl⟩⟩
  size := by simp [Cx.lay]
  frame b hb _ := heap_alloc_old _ _ _ hb
  own b hb := by
    rcases hb with (hb | hb) | ⟨n, x, hx, hr, hbo⟩
    · exact .inl (.inl hb)
    · exact .inr (by omega)
    · have hx : C.H.get n = some x := hx
      have hne : n ≠ nm := fun e => by rw [e, hg] at hx; cases hx
      exact .inl (.inr ⟨n, x, hx, hr, by rw [← lay_bo x hne]; exact hbo⟩)

theorem Cx.lay_rel {C : Cx} (hR : Rel C) {nm : Nat} (o : Obj) (hlt : nm < C.H.next) (hg : C.H.get nm = none) (hρ : C.ρ nm = none) : Rel (C.lay nm o) where
  names n hn := by
    have hn : C.H.next ≤ n := hn
    obtain ⟨h1, h2⟩ := hR.names n hn
    exact ⟨h1, by simp [Cx.lay, show n ≠ nm by omega, h2]⟩
  blocks n x hx := by
    refine (hR.blocks n x hx).keep (Cx.lay_step o hg hρ) rfl fun k ob hk ho => ?_
    show (C.w.alloc o).heap[k]? = some ob
    rw [heap_alloc_old _ _ _ (hR.lt hx hk)]; exact ho
  dist i j x y b hx hy hr h1 h2 := by
    have hi : i ≠ nm := fun e => by rw [e] at hx; rw [show (C.lay nm o).H.get nm = C.H.get nm from rfl, hg] at hx; cases hx
    have hj : j ≠ nm := fun e => by rw [e] at hy; rw [show (C.lay nm o).H.get nm = C.H.get nm from rfl, hg] at hy; cases hy
    exact hR.dist i j x y b hx hy hr (by rw [← lay_bo x hi]; exact h1) (by rw [← lay_bo y hj]; exact h2)
  hid b hb := by
    have hsz : (C.lay nm o).w.heap.size = C.w.heap.size + 1 := by simp [Cx.lay]
    rw [hsz]
    have key : ∀ n x, (C.lay nm o).H.get n = some x → blockOf (C.lay nm o) n x = blockOf C n x := fun n x hx => lay_bo x fun e => by
      rw [e] at hx; rw [show (C.lay nm o).H.get nm = C.H.get nm from rfl, hg] at hx; cases hx
    rcases hb with hb | hb
    · obtain ⟨h1, h2⟩ := hR.hid b hb
      exact ⟨by omega, fun n x hx hbo => h2 n x hx (by rw [← key n x hx]; exact hbo)⟩
    · subst hb
      exact ⟨by omega, fun n x hx hbo => by
        have := hR.lt (C := C) hx (by rw [← key n x hx]; exact hbo)
        omega⟩

/-- A hidden block comes to be looked at. -/
def Cx.shown (C : Cx) (nm : Nat) (blk : Blk) (b : Nat) : Cx where
  w := C.w
  H := C.H.put nm blk
  ρ := C.ρ
  η := C.η
  hid := fun x => C.hid x ∧ x ≠ b

theorem next_put_lt (H : Heap) (n : Nat) (b : Blk) (h : n < H.next) : (H.put n b).next = H.next := by
  simp only [Heap.put]
  rw [Nat.ble_eq_true_of_le (show n + 1 ≤ H.next by omega)]
  rfl

theorem Cx.shown_step {C : Cx} {nm b : Nat} {blk : Blk} (hlt : nm < C.H.next) (hp : plainBlk blk) (hρ : C.ρ nm = some b) (hh : C.hid b) : StepV C (C.shown nm blk b) where
  next := by show C.H.next ≤ (C.H.put nm blk).next; rw [next_put_lt _ _ _ hlt]; exact Nat.le_refl _
  ρ _ _ h := h
  rows n x g _ hx hgn := by
    have hx : (C.H.put nm blk).get n = some x := hx
    rw [get_put] at hx
    by_cases h : nm = n
    · rw [if_pos h] at hx
      cases hx
      rw [(plain_rw hp).2.1] at hgn
      cases hgn
    · rw [if_neg h] at hx
      exact ⟨x, g, hx, hgn, Nat.le_refl _, fun _ => ⟨rfl, rfl, rfl⟩⟩
  size := Nat.le_refl _
  frame _ _ _ := rfl
  own x hx := by
    rcases hx with hx | ⟨n, y, hy, hr, hbo⟩
    · exact .inl (.inl hx.1)
    · have hy : (C.H.put nm blk).get n = some y := hy
      rw [get_put] at hy
      by_cases h : nm = n
      · subst h
        rw [if_pos rfl] at hy
        cases hy
        rw [(plain_rw hp).2.2] at hbo
        have hbo : C.ρ nm = some x := hbo
        rw [hρ] at hbo
        cases hbo
        exact .inl (.inl hh)
      · rw [if_neg h] at hy
        exact .inl (.inr ⟨n, y, hy, hr, by rw [← hbo]; cases y <;> rfl⟩)

theorem Cx.shown_rel {C : Cx} (hR : Rel C) {nm b : Nat} {blk : Blk} (hlt : nm < C.H.next) (hp : plainBlk blk) (hρ : C.ρ nm = some b) (hh : C.hid b) (hb : BlkR C nm blk) : Rel (C.shown nm blk b) where
  names n hn := by
    have hn : (C.H.put nm blk).next ≤ n := hn
    rw [next_put_lt _ _ _ hlt] at hn
    obtain ⟨h1, h2⟩ := hR.names n hn
    exact ⟨by show (C.H.put nm blk).get n = none; rw [get_put, if_neg (by omega)]; exact h1, h2⟩
  blocks n x hx := by
    have hst := Cx.shown_step hlt hp hρ hh
    have hx : (C.H.put nm blk).get n = some x := hx
    rw [get_put] at hx
    by_cases h : nm = n
    · subst h
      rw [if_pos rfl] at hx
      cases hx
      exact hb.keep hst rfl fun _ _ _ h => h
    · rw [if_neg h] at hx
      exact (hR.blocks n x hx).keep hst rfl fun _ _ _ h => h
  dist i j x y k hx hy hr h1 h2 := by
    have bo : ∀ n z, blockOf (C.shown nm blk b) n z = blockOf C n z := fun n z => by cases z <;> rfl
    rw [bo] at h1 h2
    have hx : (C.H.put nm blk).get i = some x := hx
    have hy : (C.H.put nm blk).get j = some y := hy
    rw [get_put] at hx hy
    have hn : ∀ n z, C.H.get n = some z → blockOf C n z ≠ some b := (hR.hid b hh).2
    by_cases hi : nm = i <;> by_cases hj : nm = j
    · exact hi.symm.trans hj
    · rw [if_pos hi] at hx; rw [if_neg hj] at hy
      cases hx
      rw [(plain_rw hp).2.2, ← hi, hρ] at h1
      cases h1
      exact absurd h2 (hn j y hy)
    · rw [if_neg hi] at hx; rw [if_pos hj] at hy
      cases hy
      rw [(plain_rw hp).2.2, ← hj, hρ] at h2
      cases h2
      exact absurd h1 (hn i x hx)
    · rw [if_neg hi] at hx; rw [if_neg hj] at hy
      exact hR.dist i j x y k hx hy hr h1 h2
  hid x hx := by
    obtain ⟨h1, h2⟩ := hR.hid x hx.1
    refine ⟨h1, fun n y hy hbo => ?_⟩
    have hy : (C.H.put nm blk).get n = some y := hy
    rw [get_put] at hy
    have bo : blockOf (C.shown nm blk b) n y = blockOf C n y := by cases y <;> rfl
    rw [bo] at hbo
    by_cases h : nm = n
    · rw [if_pos h] at hy
      cases hy
      rw [(plain_rw hp).2.2, ← h, hρ] at hbo
      cases hbo
      exact hx.2 rfl
    · rw [if_neg h] at hy
      exact h2 n y hy hbo

/-- A hidden block, and what it is seen as. -/
def HF (C : Cx) (sz nm : Nat) (blk : Blk) : Prop := ∃ b, C.ρ nm = some b ∧ C.hid b ∧ sz ≤ b ∧ C.H.get nm = none ∧ BlkR C nm blk ∧ plainBlk blk ∧ nm < C.H.next

theorem HF.keep {C C' : Cx} {sz nm : Nat} {blk : Blk} (hR : Rel C) (h : HF C sz nm blk) (hs : Step C C') : HF C' sz nm blk := by
  obtain ⟨b, h1, h2, h3, h4, h5, h6, h7⟩ := h
  refine ⟨b, hs.ρ _ _ h1, hs.hid b h2, h3, (hs.dead nm h7 h4).1, ?_, h6, Nat.lt_of_lt_of_le h7 hs.next⟩
  have hfr := hs.hframe b (hR.hid b h2).1 h2
  cases blk with
  | cells rw cs =>
    obtain ⟨b', c, e, fr, k1, k2, k3, k4⟩ := h5
    rw [h1] at k1; cases k1
    exact ⟨b, c, e, fr, hs.ρ _ _ h1, hfr.trans k2, k3.keep hs, k4⟩
  | tmap rw ka va κ ν es =>
    obtain ⟨b', me, cl, k1, k2, k3, k4⟩ := h5
    rw [h1] at k1; cases k1
    exact ⟨b, me, cl, hs.ρ _ _ h1, hfr.trans k2, k3.keep hs, k4⟩
  | amap rw es =>
    obtain ⟨b', me, cl, k1, k2, ka, va, k3⟩ := h5
    rw [h1] at k1; cases k1
    exact ⟨b, me, cl, hs.ρ _ _ h1, hfr.trans k2, ka, va, k3.keep hs⟩
  | _ => cases h6

theorem HF.shown {C : Cx} {sz nm nm' b' : Nat} {blk blk' : Blk} (h : HF C sz nm blk) (hne : nm' ≠ nm) (hlt : nm' < C.H.next) (hp : plainBlk blk') (hρ : C.ρ nm' = some b') (hh : C.hid b') (hinj : ∀ b, C.ρ nm = some b → b ≠ b') : HF (C.shown nm' blk' b') sz nm blk := by
  obtain ⟨b, h1, h2, h3, h4, h5, h6, h7⟩ := h
  exact ⟨b, h1, ⟨h2, hinj b h1⟩, h3, by show (C.H.put nm' blk').get nm = none; rw [get_put, if_neg hne]; exact h4, h5.keep (Cx.shown_step hlt hp hρ hh) rfl fun _ _ _ h => h, h6, by show nm < (C.H.put nm' blk').next; rw [next_put_lt _ _ _ hlt]; exact h7⟩

theorem HF.lay {C : Cx} {sz nm nm' : Nat} {blk : Blk} {o : Obj} (hR : Rel C) (h : HF C sz nm blk) (_ : nm ≠ nm') (hg : C.H.get nm' = none) (hρ : C.ρ nm' = none) : HF (C.lay nm' o) sz nm blk := by
  obtain ⟨b, h1, h2, h3, h4, h5, h6, h7⟩ := h
  have hs := Cx.lay_step o hg hρ
  refine ⟨b, hs.ρ _ _ h1, .inl h2, h3, h4, h5.keep hs rfl fun k ob hk ho => ?_, h6, h7⟩
  rw [(plain_rw h6).2.2, h1] at hk
  cases hk
  show (C.w.alloc o).heap[b]? = some ob
  rw [heap_alloc_old _ _ _ (hR.hid b h2).1]; exact ho

/-- All that is to be there at a stage's end. -/
theorem putK_spec (hp : PlOk all ps m) {q nm0 sz : Nat} {tm : Fr} {Hd : Heap} : ∀ (os : List Oper) (pss : List Pl) (i : Nat) (C : Cx), (∀ j, os[j]? = all[i + j]?) → (∀ j, pss[j]? = ps[i + j]?) → Rel C → nm0 + all.size ≤ C.H.next →
    (∀ j k b, j < all.size → k < all.size → C.ρ (nm0 + j) = some b → C.ρ (nm0 + k) = some b → j = k) →
    (∀ (j : Nat) (o : Oper) (p : Pl) blk, i ≤ j → all[j]? = some o → ps[j]? = some p → p.k = 1 → p.hi = q → guardV all tm o = some true → contentO E (ev tm) o = some blk → HF C sz (nm0 + j) blk) →
    putK E all nm0 q i os pss tm C.H = some Hd →
    ∃ C1 : Cx, C1.H = Hd ∧ C1.w = C.w ∧ C1.ρ = C.ρ ∧ C1.H.next = C.H.next ∧ Rel C1 ∧ StepV C C1 ∧ (∀ x, C1.hid x → C.hid x) ∧ (∀ x, C.hid x → x < sz → C1.hid x) ∧ (∀ n, (∀ j, n ≠ nm0 + j) → C1.H.get n = C.H.get n) ∧ (∀ n, C.ρ n = none → C.H.get n = none → C1.H.get n = none) ∧
      ∀ (j : Nat) (o : Oper) (p : Pl) blk, all[j]? = some o → ps[j]? = some p → (p.hi ≠ q ∨ j < i) → HF C sz (nm0 + j) blk → HF C1 sz (nm0 + j) blk
  | [], pss, i, C, hos, hps, hR, hn, hi, hh, h => by
    cases h
    exact ⟨C, rfl, rfl, rfl, rfl, hR, (Step.refl C).toStepV, fun _ h => h, fun _ h _ => h, fun _ _ => rfl, fun _ _ h => h, fun _ _ _ _ _ _ _ h => h⟩
  | o :: os, [], i, C, hos, hps, hR, hn, hi, hh, h => by
    exfalso
    have h1 := hos 0
    have h2 := hps 0
    simp at h1 h2
    have := getElem?_lt h1.symm
    have h3 := hp.len
    omega
  | o :: os, p :: pss, i, C, hos, hps, hR, hn, hi, hh, h => by
    have ho : all[i]? = some o := by simpa using (hos 0).symm
    have hpi : ps[i]? = some p := by simpa using (hps 0).symm
    have hos' : ∀ j, os[j]? = all[i + 1 + j]? := fun j => by have := hos (j + 1); simpa [Nat.add_assoc, Nat.add_comm 1 j] using this
    have hps' : ∀ j, pss[j]? = ps[i + 1 + j]? := fun j => by have := hps (j + 1); simpa [Nat.add_assoc, Nat.add_comm 1 j] using this
    have stay : putK E all nm0 q (i + 1) os pss tm C.H = some Hd → _ := fun h => putK_spec hp os pss (i + 1) C hos' hps' hR hn hi (fun j o p blk hj => hh j o p blk (by omega)) h
    have weak : putK E all nm0 q (i + 1) os pss tm C.H = some Hd → ∃ C1 : Cx, C1.H = Hd ∧ C1.w = C.w ∧ C1.ρ = C.ρ ∧ C1.H.next = C.H.next ∧ Rel C1 ∧ StepV C C1 ∧ (∀ x, C1.hid x → C.hid x) ∧ (∀ x, C.hid x → x < sz → C1.hid x) ∧ (∀ n, (∀ j, n ≠ nm0 + j) → C1.H.get n = C.H.get n) ∧ (∀ n, C.ρ n = none → C.H.get n = none → C1.H.get n = none) ∧
      ∀ (j : Nat) (o : Oper) (p : Pl) blk, all[j]? = some o → ps[j]? = some p → (p.hi ≠ q ∨ j < i) → HF C sz (nm0 + j) blk → HF C1 sz (nm0 + j) blk := fun h => by
      obtain ⟨C1, a1, a2, a3, a4, a5, a6, a7, a8, a9, a10, a11⟩ := stay h
      exact ⟨C1, a1, a2, a3, a4, a5, a6, a7, a8, a9, a10, fun j o p blk h1 h2 h3 => a11 j o p blk h1 h2 (h3.imp id fun h => by omega)⟩
    simp only [putK] at h
    cases hact : (Nat.beq p.k 1 && Nat.beq p.hi q) with
    | false => rw [hact] at h; exact weak h
    | true =>
      rw [hact] at h
      simp only [Bool.and_eq_true] at hact
      have hk := Nat.eq_of_beq_eq_true hact.1
      have hq := Nat.eq_of_beq_eq_true hact.2
      simp only [cond_true] at h
      split at h
      · rename_i hg
        split at h
        · rename_i blk hc
          have hf := hh i o p blk (Nat.le_refl _) ho hpi hk hq hg hc
          obtain ⟨b, h1, h2, h3, h4, h5, h6, h7⟩ := hf
          have hst := Cx.shown_step (C := C) h7 h6 h1 h2
          obtain ⟨C1, a1, a2, a3, a4, a5, a6, a7, a8, a9, a10, a11⟩ := putK_spec hp os pss (i + 1) (C.shown (nm0 + i) blk b) hos' hps' (Cx.shown_rel hR h7 h6 h1 h2 h5) (by show _ ≤ (C.H.put _ _).next; rw [next_put_lt _ _ _ h7]; exact hn) hi
            (fun j o' p' blk' hj ho' hp' hk' hq' hg' hc' => (hh j o' p' blk' (by omega) ho' hp' hk' hq' hg' hc').shown (by omega) h7 h6 h1 h2 (fun b' hb' e => by
              subst e
              have := hi j i b' (getElem?_lt ho') (getElem?_lt ho) hb' h1
              omega)) h
          refine ⟨C1, a1, a2, a3, ?_, a5, hst.trans a6, fun x hx => (a7 x hx).1, fun x hx hlt => a8 x ⟨hx, fun e => by omega⟩ hlt, fun n hn => ?_, fun n hρ hg => ?_, fun j o' p' blk' ho' hp' hcase hF => ?_⟩
          · rw [a4]; exact next_put_lt _ _ _ h7
          · rw [a9 n hn]
            show (C.H.put _ _).get n = _
            rw [get_put, if_neg (fun e => hn i e.symm)]
          · refine a10 n hρ ?_
            show (C.H.put _ _).get n = _
            rw [get_put]
            by_cases hne : nm0 + i = n
            · subst hne
              rw [h1] at hρ; cases hρ
            · rw [if_neg hne]; exact hg
          · have hne : j ≠ i := fun e => by
              subst e
              rw [hpi] at hp'
              cases hp'
              rcases hcase with hcase | hcase
              · exact hcase hq
              · omega
            exact a11 j o' p' blk' ho' hp' (hcase.imp id fun h => by omega) (hF.shown (by omega) h7 h6 h1 h2 (fun b' hb' e => by
              subst e
              have := hi j i b' (getElem?_lt ho') (getElem?_lt ho) hb' h1
              omega))
        · cases h
      · exact weak h
      · cases h

end Go.VI
