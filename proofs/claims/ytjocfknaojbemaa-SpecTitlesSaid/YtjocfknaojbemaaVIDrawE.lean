/-
  Regions whose order is drawn do what the interpreter says.
-/
import Derived.Test.YtjocfknaojbemaaVIDrawD
namespace Go.VI

variable {P : Program} {E : Env} {R : Type} {all : Array Oper} {ps : List Pl} {m : Nat}

def unl (ls : Array Bool) : Nat := (ls.toList.filter (!·)).length

theorem unl_set {ls : Array Bool} {i : Nat} (h : ls.getD i true = false) : unl (ls.setIfInBounds i true) + 1 = unl ls := by
  obtain ⟨l⟩ := ls
  unfold unl
  have key : ∀ (l : List Bool) (i : Nat), l.getD i true = false → ((l.set i true).filter (!·)).length + 1 = (l.filter (!·)).length := by
    intro l
    induction l with
    | nil => intro i h; simp at h
    | cons x r ih =>
      intro i h
      cases i with
      | zero => have : x = false := by simpa using h
                subst this; simp
      | succ i =>
        have := ih i (by simpa using h)
        cases x <;> simp [this]
  have := key l i (by simpa [Array.getD_eq_getD_getElem?, List.getD_eq_getElem?_getD] using h)
  simpa using this

theorem unl_zero {ls : Array Bool} (h : unl ls = 0) {i : Nat} (hi : i < ls.size) : ls.getD i false = true := by
  unfold unl at h
  rw [List.length_eq_zero_iff, List.filter_eq_nil_iff] at h
  have := h ls[i] (by simp)
  simp [Array.getD_eq_getD_getElem?, hi]
  simpa using this

theorem preOf_mem {o : Oper} {e : Edge} (he : e ∈ o.after) (hb : Region.binds .any e = true) : e.on ∈ preOf o := by
  unfold preOf
  exact List.mem_map.2 ⟨e, List.mem_filter.2 ⟨by simpa using he, hb⟩, rfl⟩
theorem preOf_iff {o : Oper} {j : Nat} (h : j ∈ preOf o) : ∃ e ∈ o.after, Region.binds .any e = true ∧ e.on = j := by
  unfold preOf at h
  obtain ⟨e, he, rfl⟩ := List.mem_map.1 h
  obtain ⟨h1, h2⟩ := List.mem_filter.1 he
  exact ⟨e, by simpa using h1, h2, rfl⟩

/-- Listed. -/
abbrev Ld (ls : Array Bool) (i : Nat) : Prop := ls.getD i false = true
theorem Ld.set {ls : Array Bool} {i j : Nat} (h : Ld ls j) : Ld (ls.setIfInBounds i true) j := getD_set_true h
theorem Ld.of_set {ls : Array Bool} {i j : Nat} (h : Ld (ls.setIfInBounds i true) j) : j = i ∨ Ld ls j := by
  by_cases hij : i = j
  · exact .inl hij.symm
  · rw [Ld, getD_set_ne false hij] at h; exact .inr h

/-- How things stand at stage q. -/
structure Inv (E : Env) (all : Array Oper) (ps : List Pl) (nm0 n : Nat) (C0 : Cx) (a0 : Act) (q : Nat) (ls : Array Bool) (tm : Fr) (C : Cx) (a : Act) : Prop where
  size : ls.size = all.size
  closed : ∀ {i o j}, Ld ls i → all[i]? = some o → j ∈ preOf o → Ld ls j
  done : ∀ {i : Nat} {p : Pl}, ps[i]? = some p → p.k = 2 → p.lo < q → Ld ls i
  only : ∀ {i : Nat} {p : Pl}, Ld ls i → ps[i]? = some p → (if p.k = 2 then p.lo < q else p.lo ≤ q)
  tmps : a.tmps.size = n
  defers : a.defers = a0.defers
  rel : Rel C
  step : Step C0 C
  next : nm0 + all.size ≤ C.H.next
  vals : ∀ {i o d}, Ld ls i → all[i]? = some o → o.dst = some d → VR C (tm.get d) (slot a d)
  rest : ∀ t, (∀ (i : Nat) (o : Oper), all[i]? = some o → o.dst ≠ some t) → VR C (tm.get t) (slot a t)
  un : ∀ i, i < all.size → ls.getD i false = false → C.ρ (nm0 + i) = none
  rn : ∀ i, i < all.size → C.ρ (nm0 + i) = none → C.H.get (nm0 + i) = none
  inj : ∀ i j b, i < all.size → j < all.size → C.ρ (nm0 + i) = some b → C.ρ (nm0 + j) = some b → i = j
  bd : ∀ i b, i < all.size → C.ρ (nm0 + i) = some b → b < C.w.heap.size
  hidn : ∀ {i : Nat} {o : Oper} {p : Pl} {blk : Blk}, Ld ls i → all[i]? = some o → ps[i]? = some p → p.k = 1 → q ≤ p.hi → guardV all tm o = some true → contentO E (ev tm) o = some blk → HF C C0.w.heap.size (nm0 + i) blk

section
variable {nm0 n : Nat} {C0 : Cx} {a0 : Act} {q : Nat} {ls : Array Bool} {tm : Fr} {C : Cx} {a : Act}

theorem ps_get (hp : PlOk all ps m) {i : Nat} {o : Oper} (h : all[i]? = some o) : ∃ p, ps[i]? = some p := by
  have := getElem?_lt h
  have h2 := hp.len
  exact ⟨ps[i]'(by omega), by simp [show i < ps.length by omega]⟩
theorem all_get (hp : PlOk all ps m) {i : Nat} {p : Pl} (h : ps[i]? = some p) : ∃ o, all[i]? = some o := by
  have := (List.getElem?_eq_some_iff.1 h).1
  have h2 := hp.len
  exact ⟨all[i]'(by omega), by simp [show i < all.size by omega]⟩

/-- Behind all that an operation waits for, there have been as many effects. -/
theorem lo_le (hp : PlOk all ps m) (I : Inv E all ps nm0 n C0 a0 q ls tm C a) {i : Nat} {o : Oper} {p : Pl} (ho : all[i]? = some o) (hpi : ps[i]? = some p) (hpre : ∀ j ∈ preOf o, Ld ls j) : p.lo ≤ q := by
  rcases hp.lo ho hpi with h | ⟨j, hj, x, hx, h⟩
  · omega
  · have := I.only (hpre j hj) hx
    split at h
    · rename_i hk; rw [if_pos hk] at this; omega
    · rename_i hk; rw [if_neg hk] at this; omega

/-- Ahead of an effect all those have come up that wait for no less. -/
theorem hi_listed (hp : PlOk all ps m) (I : Inv E all ps nm0 n C0 a0 q ls tm C a) {h : Nat} (hm : h < m) (he : ∀ (s : Nat) (o : Oper) (p : Pl), all[s]? = some o → ps[s]? = some p → p.k = 2 → p.lo ≤ h → ∀ j ∈ preOf o, Ld ls j) :
    ∀ (d : Nat) (i : Nat) (o : Oper) (p : Pl), all.size - i = d → all[i]? = some o → ps[i]? = some p → p.k ≠ 2 → p.hi ≤ h → Ld ls i := by
  intro d
  induction d using Nat.strongRecOn with
  | _ d ih =>
    intro i o p hd ho hpi hk hh
    obtain ⟨_, _, h1⟩ := hp.hi ho hpi hk
    rcases h1 with h1 | ⟨s, o', p', hs, ho', hp', hmem, h1⟩
    · omega
    · have hlt := getElem?_lt ho'
      have hlt2 := getElem?_lt ho
      split at h1
      · rename_i hk'; exact he s o' p' ho' hp' hk' (by omega) i hmem
      · rename_i hk'
        have := ih (all.size - s) (by omega) s o' p' rfl ho' hp' hk' (by omega)
        exact I.closed this ho' hmem

theorem hi_ge (hp : PlOk all ps m) (hqm : q ≤ m) (I : Inv E all ps nm0 n C0 a0 q ls tm C a) {i : Nat} {o : Oper} {p : Pl} (ho : all[i]? = some o) (hpi : ps[i]? = some p) (hk : p.k ≠ 2) (hnl : ¬ Ld ls i) : q ≤ p.hi := by
  rcases Nat.lt_or_ge p.hi q with h | h
  · exfalso
    refine hnl (hi_listed hp I (h := p.hi) (by omega) (fun s o' p' ho' hp' hk' hle j hj => I.closed (I.done hp' hk' (by omega)) ho' hj) _ i o p rfl ho hpi hk (Nat.le_refl _))
  · exact h

/-- The effect that may come up is the stage's own. -/
theorem eff_rank (hp : PlOk all ps m) (I : Inv E all ps nm0 n C0 a0 q ls tm C a) {i : Nat} {o : Oper} {p : Pl} (ho : all[i]? = some o) (hpi : ps[i]? = some p) (hk : p.k = 2) (hnl : ¬ Ld ls i) (hpre : ∀ j ∈ preOf o, Ld ls j) : p.lo = q := by
  have h1 := lo_le hp I ho hpi hpre
  rcases Nat.lt_or_ge p.lo q with h | h
  · exact absurd (I.done hpi hk h) hnl
  · omega

theorem effAt_get : ∀ (os : List Oper) (pss : List Pl) {i : Nat} {o : Oper} {p : Pl}, os[i]? = some o → pss[i]? = some p → p.k = 2 → p.lo = q → (∀ j x, pss[j]? = some x → x.k = 2 → x.lo = q → j = i) → effAt os pss q = some o
  | [], _, _, _, _, h, _, _, _, _ => by simp at h
  | _ :: _, [], _, _, _, _, h, _, _, _ => by simp at h
  | o1 :: os, p1 :: pss, i, o, p, ho, hpi, hk, hq, hu => by
    simp only [effAt]
    cases hb : (Nat.beq p1.k 2 && Nat.beq p1.lo q) with
    | true =>
      simp only [Bool.and_eq_true] at hb
      have := hu 0 p1 rfl (Nat.eq_of_beq_eq_true hb.1) (Nat.eq_of_beq_eq_true hb.2)
      subst this
      simpa using ho
    | false =>
      simp only [cond_false]
      cases i with
      | zero =>
        simp only [List.getElem?_cons_zero, Option.some.injEq] at hpi
        subst hpi
        rw [hk, hq] at hb
        simp at hb
      | succ i =>
        exact effAt_get os pss (by simpa using ho) (by simpa using hpi) hk hq fun j x hx h1 h2 => by
          have := hu (j + 1) x (by simpa using hx) h1 h2
          omega

/-- What an operation looks at is as the frame says, once all that it waits for has come up. -/
theorem looks_VR (hp : PlOk all ps m) (I : Inv E all ps nm0 n C0 a0 q ls tm C a) {i : Nat} {o : Oper} {p : Pl} (ho : all[i]? = some o) (hpi : ps[i]? = some p) (hpre : ∀ j ∈ preOf o, Ld ls j) {t : Nat} (ht : t ∈ o.looksAt all) : VR C (tm.get t) (slot a t) := by
  by_cases h : ∀ (j : Nat) (x : Oper), all[j]? = some x → x.dst ≠ some t
  · exact I.rest t h
  · have : ∃ (j : Nat) (x : Oper), all[j]? = some x ∧ x.dst = some t := by
      apply Classical.byContradiction
      intro hn
      exact h fun j x hx hd => hn ⟨j, x, hx, hd⟩
    obtain ⟨j, x, hx, hd⟩ := this
    exact I.vals (hpre j ((hp.slot ho hpi hx hd).1 ht)) hx hd

open Classical in
/-- What an operation may look at; all else is left open. -/
noncomputable def ρS (tm : Fr) (o : Oper) (x : Operand) : A := if x ∈ o.op.operands then ev tm x else .bot
theorem ρS_eq (tm : Fr) (o : Oper) : ∀ x ∈ o.op.operands, ρS tm o x = ev tm x := fun x hx => by unfold ρS; rw [if_pos hx]
theorem ρS_VR (hp : PlOk all ps m) (I : Inv E all ps nm0 n C0 a0 q ls tm C a) {i : Nat} {o : Oper} {p : Pl} (ho : all[i]? = some o) (hpi : ps[i]? = some p) (hpre : ∀ j ∈ preOf o, Ld ls j) (x : Operand) : VR C (ρS tm o x) (a.eval x) := by
  unfold ρS
  split
  · rename_i hx
    cases x with
    | tmp t => exact looks_VR hp I ho hpi hpre (List.mem_append_left _ (List.mem_filterMap.2 ⟨.tmp t, by simpa using hx, rfl⟩))
    | const v => exact ofConst_VR C v
    | global g => exact .bot _
    | func f => exact .func _ _ _ _ _ rfl rfl (fun _ h => absurd h (by simp)) (fun _ h => absurd h (by simp))
  · exact .bot _

theorem guard_wanted (hp : PlOk all ps m) (I : Inv E all ps nm0 n C0 a0 q ls tm C a) {i : Nat} {o : Oper} {p : Pl} (ho : all[i]? = some o) (hpi : ps[i]? = some p) (hpre : ∀ j ∈ preOf o, Ld ls j) {g : Bool} (hg : guardV all tm o = some g) : Region.wanted o (yielded all a.tmps) = g := by
  unfold guardV at hg
  split at hg
  · rename_i h
    cases hg
    simp [Region.wanted, h]
  · rename_i j want h
    split at hg
    · cases hg
    · rename_i t ht
      have hv := looks_VR hp I ho hpi hpre (t := t) (List.mem_append_right _ (by
        unfold dstOf at ht
        simp [h, ht]))
      have hiff := wanted_iff (a := a) h ht
      split at hg
      · rename_i b hb
        cases hg
        rw [hb] at hv
        have hs := VR_bool_inv hv
        have hs : slot a t = .bool b := hs
        rw [hs] at hiff
        cases hw : Region.wanted o (yielded all a.tmps) with
        | true =>
          have := hiff.1 hw
          cases this
          cases want <;> rfl
        | false =>
          cases b <;> cases want <;> simp_all [eqw]
      · rename_i hb
        cases hg
        rw [hb] at hv
        cases hw : Region.wanted o (yielded all a.tmps) with
        | false => rfl
        | true =>
          have := hiff.1 hw
          generalize hsl : slot a t = sv at hv
          rw [hsl] at this
          subst this
          cases hv
      · cases hg

/-- A new block's laying. -/
theorem new_run (hE : EnvOk P E) {ρ : Operand → A} {o : Oper} {blk : Blk} (hρ : ∀ x, VR C (ρ x) (a.eval x)) (hc : contentO E ρ o = some blk) :
    ∃ obj cv, (execOp a.eval o).run P C.w = .ok (.value cv) (C.w.alloc obj) ∧ plainBlk blk ∧ ∀ nm, C.H.get nm = none → C.ρ nm = none → VR (C.lay nm obj) (nvO o nm) cv ∧ BlkR (C.lay nm obj) nm blk := by
  have cells : ∀ {cs : List A} {c : Array Value} {e : TypeId} {nm : Nat}, VRs C cs c.toList → C.H.get nm = none → C.ρ nm = none → BlkR (C.lay nm (.cells c e)) nm (.cells true cs) := fun {cs c e nm} hv h1 h2 =>
    ⟨C.w.heap.size, c, e, (0, 0), by simp [Cx.lay], heap_alloc_new _ _, hv.keep (Cx.lay_step _ h1 h2), fun i _ h => by simp at h⟩
  have hM : ∀ (C : Cx) ga gb, MapR C ga gb [] #[] 0 := fun C ga gb => ⟨⟨[], .refl _, rfl, fun i h => absurd h (by simp)⟩, by simp, fun e he => by simp at he⟩
  unfold contentO at hc
  split at hc
  · rename_i e hop
    split at hc
    · rename_i i hi
      split at hc
      · rename_i cs hz
        cases hc
        obtain ⟨ii, d, h1, h2, _, _, _, _, h6⟩ := tiOf_some (hE.ti _ _ hi)
        cases hzz : ii.zero with
        | none => rw [hzz] at h6; rw [h6] at hz; cases hz
        | some z =>
          rw [hzz] at h6
          simp only at h6
          rw [h6] at hz
          have hv := full_VRs (ofConst_VR C z) hz
          refine ⟨.cells z.cells e, .pointer (some ⟨C.w.heap.size, 0, none⟩), ?_, trivial, fun nm h1 h2 => ⟨?_, cells hv h1 h2⟩⟩
          · simp only [execOp, hop, Instr.alloc, Sem.run_bind, run_zeroValue h1 hzz, Result.andThen_ok, newVar, newRow, run_newObj, Sem.run_pure]
            rfl
          · unfold nvO; rw [hop]
            exact .ptr _ _ _ (by simp [Cx.lay])
      · cases hc
    · cases hc
  · rename_i e x hop
    split at hc
    · rename_i cs hz
      cases hc
      have hv := full_VRs (hρ x) hz
      refine ⟨.cells (a.eval x).cells e, .pointer (some ⟨C.w.heap.size, 0, none⟩), ?_, trivial, fun nm h1 h2 => ⟨?_, cells hv h1 h2⟩⟩
      · simp only [execOp, hop, Instr.box, Sem.run_bind, newVar, newRow, run_newObj, Sem.run_pure, Result.andThen_ok]
        rfl
      · unfold nvO; rw [hop]
        exact .ptr _ _ _ (by simp [Cx.lay])
    · cases hc
  · rename_i t hop
    have hr : (execOp a.eval o).run P C.w = .ok (.value (.map (some C.w.heap.size))) (C.w.alloc (.map #[] 0)) := by
      simp only [execOp, hop, Option.map_none, Instr.makeMap, Sem.run_bind, Sem.run_pure, Result.andThen_ok, run_newObj]; rfl
    have hvr : ∀ nm, VR (C.lay nm (.map #[] 0)) (nvO o nm) (.map (some C.w.heap.size)) := fun nm => by
      unfold nvO; rw [hop]
      exact .map _ _ (by simp [Cx.lay])
    split at hc
    · split at hc
      · cases hc
        exact ⟨_, _, hr, trivial, fun nm _ _ => ⟨hvr nm, C.w.heap.size, #[], 0, by simp [Cx.lay], heap_alloc_new _ _, hM _ _ _, List.Pairwise.nil⟩⟩
      · cases hc
        exact ⟨_, _, hr, trivial, fun nm _ _ => ⟨hvr nm, C.w.heap.size, #[], 0, by simp [Cx.lay], heap_alloc_new _ _, false, false, hM _ _ _⟩⟩
    · cases hc
  · cases hc

end
end Go.VI
