/-
  Regions whose order is drawn: whatever order, one end.
-/
import Derived.Test.YtjocfknaojbemaaVIDrawE
namespace Go.VI

variable {P : Program} {E : Env} {R : Type} {all : Array Oper} {ps : List Pl} {m : Nat}
variable {nm0 n : Nat} {C0 : Cx} {a0 : Act} {q : Nat} {ls : Array Bool} {tm : Fr} {C : Cx} {a : Act}

theorem wf_dst (hwf : ∀ o ∈ all.toList, wfO all n o = true) {i : Nat} {o : Oper} (ho : all[i]? = some o) {d : Nat} (hd : o.dst = some d) : d < n :=
  wfO_dst (hwf o (Array.mem_toList_iff.2 (Array.mem_of_getElem? ho))) hd

theorem Inv.un' (I : Inv E all ps nm0 n C0 a0 q ls tm C a) {i : Nat} (hi : i < all.size) (h : ¬ Ld ls i) : C.ρ (nm0 + i) = none := I.un i hi (by
  cases h' : ls.getD i false with
  | false => rfl
  | true => exact absurd h' h)

/-- An operation that only reads, or is left out, has come up. -/
theorem Inv.read (hp : PlOk all ps m) (hwf : ∀ o ∈ all.toList, wfO all n o = true) (I : Inv E all ps nm0 n C0 a0 q ls tm C a) {i : Nat} {o : Oper} {p : Pl} (ho : all[i]? = some o) (hpi : ps[i]? = some p) (hk : p.k ≠ 2) (hlo : p.lo ≤ q) (hpre : ∀ j ∈ preOf o, Ld ls j)
    {C' : Cx} {cv : Value} (hst : Step C C') (hR' : Rel C') (hv : ∀ d, o.dst = some d → VR C' (tm.get d) cv) (hnew : p.k = 1 → guardV all tm o ≠ some true) :
    Inv E all ps nm0 n C0 a0 q (ls.setIfInBounds i true) tm C' (a.put o.dst cv) where
  size := by simp [I.size]
  closed {j x l} hj hx hl := by
    rcases hj.of_set with rfl | hj
    · rw [ho] at hx; cases hx
      exact (hpre l hl).set
    · exact (I.closed hj hx hl).set
  done hx h1 h2 := (I.done hx h1 h2).set
  only {j x} hj hx := by
    rcases hj.of_set with rfl | hj
    · rw [hpi] at hx; cases hx
      rw [if_neg hk]; exact hlo
    · exact I.only hj hx
  tmps := by rw [Act.put_size]; exact I.tmps
  defers := (put_defers _ _ _).trans I.defers
  rel := hR'
  step := I.step.trans hst
  next := Nat.le_trans I.next hst.next
  vals {j x d} hj hx hd := by
    by_cases hji : j = i
    · subst hji
      rw [ho] at hx; cases hx
      rw [hd, slot_put_self (by rw [I.tmps]; exact wf_dst hwf ho hd)]
      exact hv d hd
    · have hj : Ld ls j := hj.of_set.resolve_left hji
      obtain ⟨px, hpx⟩ := ps_get hp hx
      rw [slot_put_ne (fun y hy e => (hp.slot hx hpx ho hy).2 hji (by rw [hd, e]))]
      exact (I.vals hj hx hd).keep hst
  rest t ht := by
    rw [slot_put_ne (fun y hy e => ht i o ho (by rw [hy, e]))]
    exact (I.rest t ht).keep hst
  un j hj hl := by
    have : ls.getD j false = false := by
      cases h : ls.getD j false with
      | false => rfl
      | true => exact absurd (show Ld ls j from h).set (by rw [Ld, hl]; simp)
    have h1 := I.un j hj this
    rw [(hst.dead _ (by have := I.next; omega) (I.rn j hj h1)).2]
    exact h1
  rn j hj h := by
    have h1 : C.ρ (nm0 + j) = none := by
      cases h2 : C.ρ (nm0 + j) with
      | none => rfl
      | some b => rw [hst.ρ _ _ h2] at h; cases h
    exact (hst.dead _ (by have := I.next; omega) (I.rn j hj h1)).1
  inj j k b hj hk' h1 h2 := by
    have key : ∀ l, l < all.size → C'.ρ (nm0 + l) = some b → C.ρ (nm0 + l) = some b := fun l hl h => by
      cases h3 : C.ρ (nm0 + l) with
      | none => rw [(hst.dead _ (by have := I.next; omega) (I.rn l hl h3)).2, h3] at h; cases h
      | some b' => rw [hst.ρ _ _ h3] at h; exact h
    exact I.inj j k b hj hk' (key j hj h1) (key k hk' h2)
  bd j b hj h := by
    cases h3 : C.ρ (nm0 + j) with
    | none => rw [(hst.dead _ (by have := I.next; omega) (I.rn j hj h3)).2, h3] at h; cases h
    | some b' =>
      rw [hst.ρ _ _ h3] at h
      cases h
      exact Nat.lt_of_lt_of_le (I.bd j b hj h3) hst.size
  hidn {j x px blk} hj hx hpx h1 h2 h3 h4 := by
    rcases hj.of_set with rfl | hj
    · rw [ho] at hx; cases hx
      rw [hpi] at hpx; cases hpx
      exact absurd h3 (hnew h1)
    · exact (I.hidn hj hx hpx h1 h2 h3 h4).keep I.rel hst

/-- A new block has been laid. -/
theorem Inv.laid (hp : PlOk all ps m) (hnm : C0.H.next ≤ nm0) (hwf : ∀ o ∈ all.toList, wfO all n o = true) (I : Inv E all ps nm0 n C0 a0 q ls tm C a) {i : Nat} {o : Oper} {p : Pl} {blk : Blk} {obj : Obj} {cv : Value} (ho : all[i]? = some o) (hpi : ps[i]? = some p) (hk : p.k ≠ 2) (hlo : p.lo ≤ q) (hpre : ∀ j ∈ preOf o, Ld ls j) (hnl : ¬ Ld ls i)
    (hc : contentO E (ev tm) o = some blk) (hpl : plainBlk blk) (hv : ∀ d, o.dst = some d → VR (C.lay (nm0 + i) obj) (tm.get d) cv) (hb : BlkR (C.lay (nm0 + i) obj) (nm0 + i) blk) :
    Inv E all ps nm0 n C0 a0 q (ls.setIfInBounds i true) tm (C.lay (nm0 + i) obj) (a.put o.dst cv) := by
  have hilt := getElem?_lt ho
  have hρ := I.un' hilt hnl
  have hg := I.rn i hilt hρ
  have hst := Cx.lay_step obj hg hρ
  have hlt : nm0 + i < C.H.next := by have := I.next; omega
  have ρne : ∀ j, j ≠ i → (C.lay (nm0 + i) obj).ρ (nm0 + j) = C.ρ (nm0 + j) := fun j hj => by simp [Cx.lay, hj]
  have ρi : (C.lay (nm0 + i) obj).ρ (nm0 + i) = some C.w.heap.size := by simp [Cx.lay]
  have hsz : (C.lay (nm0 + i) obj).w.heap.size = C.w.heap.size + 1 := by simp [Cx.lay]
  refine {
    size := by simp [I.size]
    closed := fun {j x l} hj hx hl => by
      rcases hj.of_set with rfl | hj
      · rw [ho] at hx; cases hx
        exact (hpre l hl).set
      · exact (I.closed hj hx hl).set
    done := fun hx h1 h2 => (I.done hx h1 h2).set
    only := fun {j x} hj hx => by
      rcases hj.of_set with rfl | hj
      · rw [hpi] at hx; cases hx
        rw [if_neg hk]; exact hlo
      · exact I.only hj hx
    tmps := by rw [Act.put_size]; exact I.tmps
    defers := (put_defers _ _ _).trans I.defers
    rel := Cx.lay_rel I.rel obj hlt hg hρ
    step := {
      toStepV := I.step.toStepV.trans hst
      hid := fun b hb => .inl (I.step.hid b hb)
      dead := fun k hk hgk => by
        obtain ⟨h1, h2⟩ := I.step.dead k hk hgk
        exact ⟨h1, by rw [← h2]; simp [Cx.lay, show k ≠ nm0 + i by omega]⟩
      hframe := fun b hb hh => by
        rw [← I.step.hframe b hb hh]
        exact heap_alloc_old _ _ _ (Nat.lt_of_lt_of_le hb I.step.size)
      os := I.step.os, tape := I.step.tape, output := I.step.output }
    next := I.next
    vals := fun {j x d} hj hx hd => by
      by_cases hji : j = i
      · subst hji
        rw [ho] at hx; cases hx
        rw [hd, slot_put_self (by rw [I.tmps]; exact wf_dst hwf ho hd)]
        exact hv d hd
      · have hj : Ld ls j := hj.of_set.resolve_left hji
        obtain ⟨px, hpx⟩ := ps_get hp hx
        rw [slot_put_ne (fun y hy e => (hp.slot hx hpx ho hy).2 hji (by rw [hd, e]))]
        exact (I.vals hj hx hd).keep hst
    rest := fun t ht => by
      rw [slot_put_ne (fun y hy e => ht i o ho (by rw [hy, e]))]
      exact (I.rest t ht).keep hst
    un := fun j hj hl => by
      have hji : j ≠ i := fun e => by
        subst e
        have : Ld (ls.setIfInBounds j true) j := by
          have : j < ls.size := by rw [I.size]; exact hilt
          simp [Ld, this]
        rw [Ld, hl] at this
        cases this
      rw [ρne j hji]
      exact I.un j hj (by rw [getD_set_ne false (Ne.symm hji)] at hl; exact hl)
    rn := fun j hj h => by
      by_cases hji : j = i
      · subst hji; rw [ρi] at h; cases h
      · rw [ρne j hji] at h; exact I.rn j hj h
    inj := fun j k b hj hk' h1 h2 => by
      by_cases hji : j = i <;> by_cases hki : k = i
      · omega
      · subst hji
        rw [ρi] at h1; cases h1
        rw [ρne k hki] at h2
        have := I.bd k _ hk' h2
        omega
      · subst hki
        rw [ρi] at h2; cases h2
        rw [ρne j hji] at h1
        have := I.bd j _ hj h1
        omega
      · rw [ρne j hji] at h1
        rw [ρne k hki] at h2
        exact I.inj j k b hj hk' h1 h2
    bd := fun j b hj h => by
      rw [hsz]
      by_cases hji : j = i
      · subst hji; rw [ρi] at h; cases h; omega
      · rw [ρne j hji] at h
        have := I.bd j b hj h
        omega
    hidn := fun {j x px blk'} hj hx hpx h1 h2 h3 h4 => by
      by_cases hji : j = i
      · subst hji
        rw [ho] at hx; cases hx
        rw [hc] at h4; cases h4
        exact ⟨C.w.heap.size, ρi, .inr rfl, I.step.size, hg, hb, hpl, hlt⟩
      · exact (I.hidn (hj.of_set.resolve_left hji) hx hpx h1 h2 h3 h4).lay I.rel (by omega) hg hρ }

/-- The world at a stage's end: the blocks that must be there are looked at. -/
theorem Inv.ends (hp : PlOk all ps m) (hR0 : Rel C0) (hnm : C0.H.next ≤ nm0) (I : Inv E all ps nm0 n C0 a0 q ls tm C a) {Hd : Heap} (hput : putK E all nm0 q 0 all.toList ps tm C.H = some Hd)
    (hl : ∀ (i : Nat) (o : Oper) (p : Pl), all[i]? = some o → ps[i]? = some p → p.k = 1 → p.hi = q → Ld ls i) :
    ∃ C1 : Cx, C1.H = Hd ∧ C1.w = C.w ∧ C1.ρ = C.ρ ∧ C1.H.next = C.H.next ∧ Rel C1 ∧ StepV C C1 ∧ Step C0 C1 ∧ (∀ n, C.ρ n = none → C.H.get n = none → C1.H.get n = none) ∧
      ∀ (j : Nat) (o : Oper) (p : Pl) blk, all[j]? = some o → ps[j]? = some p → p.hi ≠ q → HF C C0.w.heap.size (nm0 + j) blk → HF C1 C0.w.heap.size (nm0 + j) blk := by
  obtain ⟨C1, a1, a2, a3, a4, a5, a6, a7, a8, a9, a10, a11⟩ := putK_spec (sz := C0.w.heap.size) hp all.toList ps 0 C (fun j => by simp) (fun j => by simp) I.rel I.next I.inj
    (fun j o p blk _ ho hpj hk hq hg hc => I.hidn (hl j o p ho hpj hk hq) ho hpj hk (by omega) hg hc) hput
  refine ⟨C1, a1, a2, a3, a4, a5, a6, ?_, a10, fun j o p blk ho hpj hne => a11 j o p blk ho hpj (.inl hne)⟩
  exact {
    toStepV := I.step.toStepV.trans a6
    hid := fun b hb => a8 b (I.step.hid b hb) (hR0.hid b hb).1
    dead := fun k hk hgk => by
      obtain ⟨h1, h2⟩ := I.step.dead k hk hgk
      exact ⟨by rw [a9 k (fun j e => by omega)]; exact h1, by rw [a3]; exact h2⟩
    hframe := fun b hb hh => by rw [a2]; exact I.step.hframe b hb hh
    os := by rw [a2]; exact I.step.os
    tape := by rw [a2]; exact I.step.tape
    output := by rw [a2]; exact I.step.output }

end Go.VI
