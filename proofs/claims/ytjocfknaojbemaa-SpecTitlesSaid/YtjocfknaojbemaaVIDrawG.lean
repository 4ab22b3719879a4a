/-
  Regions whose order is drawn: the walk of all orders.
-/
import Derived.Test.YtjocfknaojbemaaVIDrawF
namespace Go.VI

variable {P : Program} {E : Env} {R : Type} {all : Array Oper} {ps : List Pl} {m : Nat}
variable {nm0 n : Nat} {C0 : Cx} {a0 : Act} {q : Nat} {ls : Array Bool} {tm : Fr} {C : Cx} {a : Act}

/-- An effect has come up. -/
theorem Inv.effect (hp : PlOk all ps m) (hwf : ∀ o ∈ all.toList, wfO all n o = true) (I : Inv E all ps nm0 n C0 a0 q ls tm C a) {i : Nat} {o : Oper} {p : Pl} (ho : all[i]? = some o) (hpi : ps[i]? = some p) (hk : p.k = 2) (hlo : p.lo = q) (hpre : ∀ j ∈ preOf o, Ld ls j) (hnl : ¬ Ld ls i)
    {C1 C' : Cx} {v : A} {cv : Value} {tm1 : Fr} (e2 : C1.w = C.w) (e3 : C1.ρ = C.ρ) (e4 : C1.H.next = C.H.next) (s1 : StepV C C1) (s2 : Step C0 C1) (d1 : ∀ n, C.ρ n = none → C.H.get n = none → C1.H.get n = none)
    (hh : ∀ (j : Nat) (o : Oper) (p : Pl) blk, all[j]? = some o → ps[j]? = some p → p.hi ≠ q → HF C C0.w.heap.size (nm0 + j) blk → HF C1 C0.w.heap.size (nm0 + j) blk)
    (hR1 : Rel C1) (hst : Step C1 C') (hR' : Rel C') (hv : VR C' v cv)
    (hext : ∀ t, (∀ (j : Nat) (o : Oper) (p : Pl), 0 ≤ j → all[j]? = some o → ps[j]? = some p → p.k ≠ 2 → p.lo = q + 1 → o.dst ≠ some t) → tm1.get t = (setT tm o.dst v).get t) :
    Inv E all ps nm0 n C0 a0 (q + 1) (ls.setIfInBounds i true) tm1 C' (a.put o.dst cv) := by
  have hilt := getElem?_lt ho
  -- what had come up stays as it was
  have keyA : ∀ {j : Nat} {x : Oper} {d : Nat}, Ld ls j → all[j]? = some x → x.dst = some d → tm1.get d = tm.get d := fun {j x d} hj hx hd => by
    have hji : j ≠ i := fun e => hnl (e ▸ hj)
    obtain ⟨px, hpx⟩ := ps_get hp hx
    rw [hext d fun l y py _ hy hpy h1 h2 h3 => by
      have hlj : l ≠ j := fun e => by
        subst e
        rw [hpx] at hpy; cases hpy
        have := I.only hj hpx
        rw [if_neg h1] at this
        omega
      exact (hp.slot hy hpy hx hd).2 hlj h3]
    exact get_setT_ne fun e => (hp.slot ho hpi hx hd).2 (Ne.symm hji) e
  have keyB : ∀ t, (∀ (i : Nat) (o : Oper), all[i]? = some o → o.dst ≠ some t) → tm1.get t = tm.get t := fun t ht => by
    rw [hext t fun l y _ _ hy _ _ _ => ht l y hy]
    exact get_setT_ne (ht i o ho)
  have agree : ∀ {j : Nat} {x : Oper}, Ld ls j → all[j]? = some x → Agree all x tm tm1 := fun {j x} hj hx t ht => by
    by_cases h : ∀ (l : Nat) (y : Oper), all[l]? = some y → y.dst ≠ some t
    · exact keyB t h
    · have : ∃ (l : Nat) (y : Oper), all[l]? = some y ∧ y.dst = some t := by
        apply Classical.byContradiction
        intro hn
        exact h fun l y hy hd => hn ⟨l, y, hy, hd⟩
      obtain ⟨l, y, hy, hd⟩ := this
      obtain ⟨px, hpx⟩ := ps_get hp hx
      exact keyA (I.closed hj hx ((hp.slot hx hpx hy hd).1 ht)) hy hd
  have hdead : ∀ j, j < all.size → C.ρ (nm0 + j) = none → C'.H.get (nm0 + j) = none ∧ C'.ρ (nm0 + j) = none := fun j hj h => by
    have h1 := d1 _ h (I.rn j hj h)
    obtain ⟨k1, k2⟩ := hst.dead (nm0 + j) (by rw [e4]; have := I.next; omega) h1
    exact ⟨k1, by rw [k2, e3]; exact h⟩
  have hback : ∀ j b, j < all.size → C'.ρ (nm0 + j) = some b → C.ρ (nm0 + j) = some b := fun j b hj h => by
    cases h3 : C.ρ (nm0 + j) with
    | none => rw [(hdead j hj h3).2] at h; cases h
    | some b' => rw [hst.ρ _ b' (by rw [e3]; exact h3)] at h; exact h
  exact {
    size := by simp [I.size]
    closed := fun {j x l} hj hx hl => by
      rcases hj.of_set with rfl | hj
      · rw [ho] at hx; cases hx
        exact (hpre l hl).set
      · exact (I.closed hj hx hl).set
    done := fun {j x} hx h1 h2 => by
      by_cases h3 : x.lo < q
      · exact (I.done hx h1 h3).set
      · have hji : j = i := by
          apply Classical.byContradiction
          intro hne
          exact (hp.eff ho hpi hk).2 j x hx hne h1 (by omega)
        subst hji
        have : j < ls.size := by rw [I.size]; exact hilt
        simp [Ld, this]
    only := fun {j x} hj hx => by
      rcases hj.of_set with rfl | hj
      · rw [hpi] at hx; cases hx
        rw [if_pos hk]; omega
      · have := I.only hj hx
        split at this
        · rename_i h; rw [if_pos h]; omega
        · rename_i h; rw [if_neg h]; omega
    tmps := by rw [Act.put_size]; exact I.tmps
    defers := (put_defers _ _ _).trans I.defers
    rel := hR'
    step := s2.trans hst
    next := by have h1 := I.next; have h2 := hst.next; omega
    vals := fun {j x d} hj hx hd => by
      by_cases hji : j = i
      · subst hji
        rw [ho] at hx; cases hx
        rw [hd, slot_put_self (by rw [I.tmps]; exact wf_dst hwf ho hd)]
        rw [hext d fun l y py _ hy hpy h1 _ h3 => by
          have hlj : l ≠ j := fun e => by
            subst e
            rw [hpi] at hpy; cases hpy
            exact h1 hk
          exact (hp.slot hy hpy ho hd).2 hlj h3]
        rw [hd, get_setT_self]
        exact hv
      · have hj : Ld ls j := hj.of_set.resolve_left hji
        obtain ⟨px, hpx⟩ := ps_get hp hx
        rw [slot_put_ne (fun y hy e => (hp.slot hx hpx ho hy).2 hji (by rw [hd, e])), keyA hj hx hd]
        exact ((I.vals hj hx hd).keep s1).keep hst
    rest := fun t ht => by
      rw [slot_put_ne (fun y hy e => ht i o ho (by rw [hy, e])), keyB t ht]
      exact ((I.rest t ht).keep s1).keep hst
    un := fun j hj hl => by
      have : ls.getD j false = false := by
        cases h : ls.getD j false with
        | false => rfl
        | true => exact absurd (show Ld ls j from h).set (by rw [Ld, hl]; simp)
      exact (hdead j hj (I.un j hj this)).2
    rn := fun j hj h => by
      have h1 : C.ρ (nm0 + j) = none := by
        cases h2 : C.ρ (nm0 + j) with
        | none => rfl
        | some b => rw [hst.ρ _ b (by rw [e3]; exact h2)] at h; cases h
      exact (hdead j hj h1).1
    inj := fun j k b hj hk' h1 h2 => I.inj j k b hj hk' (hback j b hj h1) (hback k b hk' h2)
    bd := fun j b hj h => by
      have := I.bd j b hj (hback j b hj h)
      have h2 := hst.size
      rw [e2] at h2
      omega
    hidn := fun {j x px blk} hj hx hpx h1 h2 h3 h4 => by
      have hji : j ≠ i := fun e => by
        subst e
        rw [hpi] at hpx; cases hpx
        omega
      have hj : Ld ls j := hj.of_set.resolve_left hji
      have ha := agree hj hx
      rw [ha.guard] at h3
      rw [ha.content] at h4
      exact (hh j x px blk hx hpx (by omega) (I.hidn hj hx hpx h1 (by omega) h3 h4)).keep hR1 hst }

theorem ready_all (hp : PlOk all ps m) (hs : ls.size = all.size) (h : Region.ready .any all ls = []) : ∀ i, i < all.size → Ld ls i := by
  intro i
  induction i using Nat.strongRecOn with
  | _ i ih =>
    intro hi
    cases hl : ls.getD i false with
    | true => exact hl
    | false =>
      exfalso
      have ho : all[i]? = some all[i] := by simp [hi]
      obtain ⟨p, hpi⟩ := ps_get hp ho
      have : i ∈ Region.ready .any all ls := mem_ready.2 ⟨by
        have : i < ls.size := by omega
        simp [this] at hl ⊢
        exact hl, _, ho, fun e he hb => ih e.on (hp.pre ho hpi (preOf_mem he hb)).1 (by have := (hp.pre ho hpi (preOf_mem he hb)).1; omega)⟩
      rw [h] at this
      cases this

theorem drawn_sound {call : CallK R} {K : Fr → Heap → Option R} {r : R} {Q : Exit → Act → World → Prop} (hE : EnvOk P E) (hc : CallSound P call) (hp : PlOk all ps m) (hR0 : Rel C0) (hnm : C0.H.next ≤ nm0) (hwf : ∀ o ∈ all.toList, wfO all n o = true)
    (hQ : ∀ (C' : Cx) a' tm', Step C0 C' → Rel C' → FR C' tm' a' → a'.tmps.size = n → a'.defers = a0.defers → K tm' C'.H = some r → Q .normal a' C'.w) :
    ∀ (fuel f q : Nat) (ls : Array Bool) (tm : Fr) (C : Cx) (a : Act), f + q = m → unl ls = fuel → Inv E all ps nm0 n C0 a0 q ls tm C a →
      (∀ (j : Nat) (o : Oper) (p : Pl), 0 ≤ j → all[j]? = some o → ps[j]? = some p → p.k ≠ 2 → p.lo ≤ q → q ≤ p.hi → Fact E all nm0 tm C.H j o p) →
      effK E call all all.toList ps nm0 K f q (drawnK E call all all.toList ps nm0 K f (q + 1)) tm C.H = some r → wpAny P .any all Q fuel ls a C.w := by
  intro fuel
  -- all have come up
  have fin : ∀ (f q : Nat) (ls : Array Bool) (tm : Fr) (C : Cx) (a : Act), f + q = m → (∀ i, i < all.size → Ld ls i) → Inv E all ps nm0 n C0 a0 q ls tm C a →
      effK E call all all.toList ps nm0 K f q (drawnK E call all all.toList ps nm0 K f (q + 1)) tm C.H = some r → Q .normal a C.w := by
    intro f q ls tm C a hfq hall I h
    have hqm : q = m := by
      apply Classical.byContradiction
      intro hne
      obtain ⟨i, p, hpi, hk, hlo⟩ := hp.rank q (by omega)
      obtain ⟨o, ho⟩ := all_get hp hpi
      have := I.only (hall i (getElem?_lt ho)) hpi
      rw [if_pos hk] at this
      omega
    have hf : f = 0 := by omega
    subst hf
    unfold effK at h
    split at h
    · cases h
    rename_i Hd hput
    rw [Heap.norm_eq] at h
    simp only at h
    obtain ⟨C1, e1, e2, e3, e4, hR1, s1, s2, d1, hh⟩ := I.ends hp hR0 hnm hput (fun i o p ho _ _ _ => hall i (getElem?_lt ho))
    subst e1
    rw [← e2]
    refine hQ C1 a tm s2 hR1 (fun t v ht => ?_) I.tmps I.defers h
    have hget : tm.get t = v := by unfold Fr.get; rw [ht]
    rw [← hget]
    refine VR.keep s1 ?_
    by_cases hx : ∀ (l : Nat) (y : Oper), all[l]? = some y → y.dst ≠ some t
    · exact I.rest t hx
    · have : ∃ (l : Nat) (y : Oper), all[l]? = some y ∧ y.dst = some t := by
        apply Classical.byContradiction
        intro hn
        exact hx fun l y hy hd => hn ⟨l, y, hy, hd⟩
      obtain ⟨l, y, hy, hd⟩ := this
      exact I.vals (hall l (getElem?_lt hy)) hy hd
  induction fuel with
  | zero =>
    intro f q ls tm C a hfq hu I hF h
    have hall : ∀ i, i < all.size → Ld ls i := fun i hi => unl_zero hu (by rw [I.size]; exact hi)
    refine ⟨?_, fin f q ls tm C a hfq hall I h⟩
    cases hr : Region.ready .any all ls with
    | nil => rfl
    | cons i is =>
      exfalso
      have : i ∈ Region.ready .any all ls := by rw [hr]; simp
      obtain ⟨h1, o, ho, _⟩ := mem_ready.1 this
      have h2 := hall i (getElem?_lt ho)
      have : i < ls.size := by rw [I.size]; exact getElem?_lt ho
      simp [Ld, this] at h1 h2
      rw [h2] at h1
      cases h1
  | succ fuel ih =>
    intro f q ls tm C a hfq hu I hF h
    refine ⟨fun hr => fin f q ls tm C a hfq (ready_all hp I.size hr) I h, fun i hi => ?_⟩
    obtain ⟨hun, o, ho, hall⟩ := mem_ready.1 hi
    obtain ⟨p, hpi⟩ := ps_get hp ho
    have hilt := getElem?_lt ho
    have hnl : ¬ Ld ls i := fun hl => by
      have : i < ls.size := by rw [I.size]; exact hilt
      simp [Ld, this] at hun hl
      rw [hl] at hun
      cases hun
    have hpre : ∀ j ∈ preOf o, Ld ls j := fun j hj => by
      obtain ⟨e, he, hb, rfl⟩ := preOf_iff hj
      exact hall e he hb
    have hu' : unl (ls.setIfInBounds i true) = fuel := by
      have := unl_set hun
      omega
    have hlo := lo_le hp I ho hpi hpre
    have hρ := ρS_VR hp I ho hpi hpre
    unfold wpOp
    simp only [ho]
    by_cases hk : p.k = 2
    · -- an effect
      have hq := eff_rank hp I ho hpi hk hnl hpre
      have hlm := (hp.eff ho hpi hk).1
      obtain ⟨f1, rfl⟩ : ∃ f1, f = f1 + 1 := ⟨f - 1, by omega⟩
      unfold effK at h
      split at h
      · cases h
      rename_i Hd hput
      rw [Heap.norm_eq] at h
      simp only at h
      have heff : effAt all.toList ps q = some o := effAt_get all.toList ps (i := i) (by simpa using ho) hpi hk hq fun j x hx h1 h2 => by
        apply Classical.byContradiction
        intro hne
        exact (hp.eff ho hpi hk).2 j x hx hne h1 (by omega)
      rw [heff] at h
      simp only at h
      split at h
      · cases h
      rename_i g hg
      obtain ⟨C1, e1, e2, e3, e4, hR1, s1, s2, d1, hh⟩ := I.ends hp hR0 hnm hput (fun j x px hx hpx hkx hhi => by
        refine hi_listed hp I (h := q) (by omega) (fun s o' p' ho' hp' hk' hle j hj => ?_) _ j x px rfl hx hpx (by omega) (by omega)
        by_cases hs : p'.lo < q
        · exact I.closed (I.done hp' hk' hs) ho' hj
        · have : s = i := by
            apply Classical.byContradiction
            intro hne
            exact (hp.eff ho hpi hk).2 s p' hp' hne hk' (by omega)
          subst this
          rw [ho] at ho'; cases ho'
          exact hpre j hj)
      subst e1
      -- behind it
      have next : ∀ (C' : Cx) v cv, Step C1 C' → Rel C' → VR C' v cv → drawnK E call all all.toList ps nm0 K (f1 + 1) (q + 1) (setT tm o.dst v) C'.H = some r → wpAny P .any all Q fuel (ls.setIfInBounds i true) (a.put o.dst cv) C'.w := fun C' v cv hst hR' hv hk' => by
        unfold drawnK at hk'
        obtain ⟨tm1, k1, k2, k3⟩ := bindK_spec hp all.toList ps 0 _ (fun j => by simp) (fun j => by simp) hk'
        exact ih f1 (q + 1) _ tm1 C' _ (by omega) hu' (I.effect hp hwf ho hpi hk hq hpre hnl e2 e3 e4 s1 s2 d1 hh hR1 hst hR' hv k2) k3 k1
      rw [guard_wanted hp I ho hpi hpre hg]
      rw [br_eq] at h
      cases g with
      | true =>
        simp only [if_true] at h ⊢
        refine .inl ?_
        rw [← opK_congr (ρS_eq tm o)] at h
        rw [← e2]
        exact opK_sound hE hc hR1 (fun x => (hρ x).keep s1) h fun C' v cv hst hR' hv hk' => next C' v cv hst hR' hv hk'
      | false =>
        simp only [Bool.false_eq_true, if_false] at h ⊢
        rw [← e2]
        exact next C1 (.tup []) undef (Step.refl C1) hR1 (.tup [] #[] rfl fun _ h => absurd h (by simp)) h
    · -- it only reads, or lays a block
      have hhi := hi_ge hp (by omega) I ho hpi hk hnl
      obtain ⟨g, hg, f0, f1, f2⟩ := hF i o p (Nat.zero_le _) ho hpi hk hlo hhi
      rw [guard_wanted hp I ho hpi hpre hg]
      have hkind := hp.kind ho hpi
      cases g with
      | false =>
        simp only [Bool.false_eq_true, if_false]
        refine ih f q _ tm C _ hfq hu' (I.read hp hwf ho hpi hk hlo hpre (Step.refl C) I.rel (fun d hd => ?_) (fun _ h => by rw [hg] at h; cases h)) hF h
        rw [f2 rfl d hd]
        exact .tup [] #[] rfl fun _ h => absurd h (by simp)
      | true =>
        simp only [if_true]
        refine .inl ?_
        by_cases hk0 : p.k = 0
        · obtain ⟨v, H', hop, hdst⟩ := f0 rfl hk0
          rw [hk0] at hkind
          have hH := kind0_heap hkind.symm hop
          subst hH
          rw [← opD_congr (ρS_eq tm o)] at hop
          obtain ⟨C', nx, cv, c1, hrun, hnx, hv, hR', hst⟩ := opD_sound (a := a) hE I.rel hρ (Nat.le_refl _) hop
          have hI := fun cv (hv : VR C' v cv) => I.read hp hwf ho hpi hk hlo hpre hst hR' (cv := cv) (fun d hd => by rw [hdst d hd]; exact hv) (fun h1 => by omega)
          unfold Oper.wp
          rw [hrun]
          rcases hnx with rfl | ⟨rfl, rfl⟩
          · exact ih f q _ tm C' _ hfq hu' (hI cv hv) (by rw [c1]; exact hF) (by rw [c1]; exact h)
          · exact ih f q _ tm C' _ hfq hu' (hI undef hv) (by rw [c1]; exact hF) (by rw [c1]; exact h)
        · obtain ⟨blk, d, hcont, hd, hget⟩ := f1 rfl hk0
          have hcont' : contentO E (ρS tm o) o = some blk := by
            rw [← hcont]
            unfold contentO
            cases hop : o.op
            case box e x => simp only [ρS_eq tm o x (by rw [hop]; simp [Op.operands])]
            case makeMap t r => cases r <;> rfl
            all_goals rfl
          obtain ⟨obj, cv, hrun, hpl, hnew⟩ := new_run hE hρ hcont'
          have hρn := I.un' hilt hnl
          obtain ⟨hv, hb⟩ := hnew (nm0 + i) (I.rn i hilt hρn) hρn
          unfold Oper.wp
          rw [hrun]
          refine ih f q _ tm (C.lay (nm0 + i) obj) _ hfq hu' (I.laid hp hnm hwf ho hpi hk hlo hpre hnl hcont hpl (fun d' hd' => ?_) hb) hF h
          rw [hd] at hd'
          cases hd'
          rw [hget]
          exact hv

end Go.VI
