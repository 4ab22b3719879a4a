/-
  What a plan says; what one stage's readings are.
-/
import Derived.Test.YtjocfknaojbemaaVIDrawB
namespace Go.VI

variable {P : Program} {E : Env} {R : Type} {all : Array Oper} {ps : List Pl} {m : Nat}

/-- A plan is right. -/
structure PlOk (all : Array Oper) (ps : List Pl) (m : Nat) : Prop where
  len : ps.length = all.size
  kind : ∀ {i : Nat} {o : Oper} {p : Pl}, all[i]? = some o → ps[i]? = some p → p.k = kindO o
  pre : ∀ {i : Nat} {o : Oper} {p : Pl} {j : Nat}, all[i]? = some o → ps[i]? = some p → j ∈ preOf o → j < i ∧ ∃ q : Pl, ps[j]? = some q ∧ (if q.k = 2 then q.lo < p.lo else q.lo ≤ p.lo)
  lo : ∀ {i : Nat} {o : Oper} {p : Pl}, all[i]? = some o → ps[i]? = some p → p.lo = 0 ∨ ∃ j : Nat, j ∈ preOf o ∧ ∃ q : Pl, ps[j]? = some q ∧ (if q.k = 2 then q.lo + 1 = p.lo else q.lo = p.lo)
  eff : ∀ {i : Nat} {o : Oper} {p : Pl}, all[i]? = some o → ps[i]? = some p → p.k = 2 → p.lo < m ∧ ∀ (j : Nat) (q : Pl), ps[j]? = some q → j ≠ i → q.k = 2 → q.lo ≠ p.lo
  hi : ∀ {i : Nat} {o : Oper} {p : Pl}, all[i]? = some o → ps[i]? = some p → p.k ≠ 2 → p.lo ≤ p.hi ∧ p.hi ≤ m ∧ (p.hi = m ∨ ∃ (s : Nat) (o' : Oper) (p' : Pl), i < s ∧ all[s]? = some o' ∧ ps[s]? = some p' ∧ i ∈ preOf o' ∧ (if p'.k = 2 then p'.lo ≤ p.hi else p'.hi ≤ p.hi))
  slot : ∀ {i : Nat} {o : Oper} {p : Pl} {j : Nat} {x : Oper} {t : Nat}, all[i]? = some o → ps[i]? = some p → all[j]? = some x → x.dst = some t → (t ∈ o.looksAt all → j ∈ preOf o) ∧ (i ≠ j → o.dst ≠ some t)
  sel : ∀ {i : Nat} {o : Oper} {p : Pl}, all[i]? = some o → ps[i]? = some p → ∀ cs b, o.op ≠ .select cs b
  rank : ∀ r, r < m → ∃ (i : Nat) (p : Pl), ps[i]? = some p ∧ p.k = 2 ∧ p.lo = r

theorem blt_lt {a b : Nat} (h : Nat.blt a b = true) : a < b := by
  have h : Nat.ble (a + 1) b = true := h
  exact Nat.le_of_ble_eq_true h

theorem getElem?_lt {α : Type} {a : Array α} {i : Nat} {x : α} (h : a[i]? = some x) : i < a.size := (Array.getElem?_eq_some_iff.1 h).1

theorem okPl_ok (h : okPl all all.toList ps m = true) : PlOk all ps m := by
  simp only [okPl, Bool.and_eq_true, List.all_eq_true, List.mem_range] at h
  obtain ⟨⟨h1, h2⟩, h3⟩ := h
  have hlen := Nat.eq_of_beq_eq_true h1
  have at' : ∀ {i : Nat} {o : Oper} {p : Pl}, all[i]? = some o → ps[i]? = some p → okAt all all.toList ps m i = true := fun {i o p} ho _ => h2 i (by simpa using getElem?_lt ho)
  have core : ∀ {i : Nat} {o : Oper} {p : Pl}, all[i]? = some o → ps[i]? = some p → (((((Nat.beq p.k (kindO o) = true ∧ (preOf o).all (okPre ps i p) = true) ∧ (Nat.beq p.lo 0 || (preOf o).any (okLo ps p)) = true) ∧ (if p.k = 2 then Nat.blt p.lo m && (List.range all.toList.length).all (fun j => Nat.beq i j || match ps[j]? with | some q => !(Nat.beq q.k 2 && Nat.beq q.lo p.lo) | none => true) else Nat.ble p.lo p.hi && (Nat.beq p.hi m || (Nat.ble p.hi m && (List.range all.toList.length).any (okHi all.toList ps i p)))) = true) ∧ (List.range all.toList.length).all (okSlot all.toList i o (o.looksAt all)) = true) ∧ (match o.op with | .select .. => false | _ => true) = true) := fun {i o p} ho hp => by
    have := at' ho hp
    unfold okAt at this
    rw [Array.getElem?_toList, ho, hp] at this
    simp only [Bool.and_eq_true] at this
    exact this
  refine ⟨by simpa using hlen, fun ho hp => ?_, fun {i o p j} ho hp hj => ?_, fun {i o p} ho hp => ?_, fun {i o p} ho hp hk => ?_, fun {i o p} ho hp hk => ?_, fun {i o p j x t} ho hp hx ht => ?_, fun {i o p} ho hp => ?_, fun r hr => ?_⟩
  · obtain ⟨⟨⟨⟨⟨a1, a2⟩, a3⟩, a4⟩, a5⟩, a6⟩ := core ho hp
    exact Nat.eq_of_beq_eq_true a1
  · obtain ⟨⟨⟨⟨⟨a1, a2⟩, a3⟩, a4⟩, a5⟩, a6⟩ := core ho hp
    have := List.all_eq_true.1 a2 j hj
    simp only [okPre, Bool.and_eq_true] at this
    refine ⟨blt_lt this.1, ?_⟩
    have := this.2
    split at this
    · rename_i q hq
      refine ⟨q, hq, ?_⟩
      split at this
      · rename_i h2; rw [if_pos h2]; exact blt_lt this
      · rename_i h2; rw [if_neg h2]; exact Nat.le_of_ble_eq_true this
    · cases this
  · obtain ⟨⟨⟨⟨⟨a1, a2⟩, a3⟩, a4⟩, a5⟩, a6⟩ := core ho hp
    simp only [Bool.or_eq_true] at a3
    rcases a3 with h0 | h0
    · exact .inl (Nat.eq_of_beq_eq_true h0)
    · obtain ⟨j, hj, hq⟩ := List.any_eq_true.1 h0
      refine .inr ⟨j, hj, ?_⟩
      simp only [okLo] at hq
      split at hq
      · rename_i q hq'
        refine ⟨q, hq', ?_⟩
        split at hq
        · rename_i h2; rw [if_pos h2]; exact Nat.eq_of_beq_eq_true hq
        · rename_i h2; rw [if_neg h2]; exact Nat.eq_of_beq_eq_true hq
      · cases hq
  · obtain ⟨⟨⟨⟨⟨a1, a2⟩, a3⟩, a4⟩, a5⟩, a6⟩ := core ho hp
    rw [if_pos hk] at a4
    simp only [Bool.and_eq_true, List.all_eq_true, List.mem_range] at a4
    refine ⟨blt_lt a4.1, fun j q hq hne hk2 heq => ?_⟩
    have hj : j < all.toList.length := by
      have := (List.getElem?_eq_some_iff.1 hq).1
      omega
    have := a4.2 j hj
    rw [hq] at this
    simp only [Bool.or_eq_true, Bool.not_eq_true', Bool.and_eq_false_iff] at this
    rcases this with h | h | h
    · exact hne (Nat.eq_of_beq_eq_true h).symm
    · simp [hk2] at h
    · simp [heq] at h
  · obtain ⟨⟨⟨⟨⟨a1, a2⟩, a3⟩, a4⟩, a5⟩, a6⟩ := core ho hp
    rw [if_neg hk] at a4
    simp only [Bool.and_eq_true, Bool.or_eq_true] at a4
    refine ⟨Nat.le_of_ble_eq_true a4.1, ?_⟩
    rcases a4.2 with h | ⟨h, h'⟩
    · have := Nat.eq_of_beq_eq_true h
      exact ⟨by omega, .inl this⟩
    · refine ⟨Nat.le_of_ble_eq_true h, .inr ?_⟩
      obtain ⟨s, hs, hq⟩ := List.any_eq_true.1 h'
      simp only [okHi] at hq
      split at hq
      · rename_i o' p' ho' hp'
        simp only [Bool.and_eq_true, List.contains_eq_mem, decide_eq_true_eq] at hq
        refine ⟨s, o', p', blt_lt hq.1.1, by simpa using ho', hp', hq.1.2, ?_⟩
        have := hq.2
        split at this
        · rename_i h2; rw [if_pos h2]; exact Nat.le_of_ble_eq_true this
        · rename_i h2; rw [if_neg h2]; exact Nat.le_of_ble_eq_true this
      · cases hq
  · obtain ⟨⟨⟨⟨⟨a1, a2⟩, a3⟩, a4⟩, a5⟩, a6⟩ := core ho hp
    have := List.all_eq_true.1 a5 j (by simpa using getElem?_lt hx)
    simp only [okSlot, Array.getElem?_toList, hx, ht, Bool.and_eq_true, Bool.or_eq_true, Bool.not_eq_true', List.contains_eq_mem, decide_eq_true_eq, decide_eq_false_iff_not] at this
    refine ⟨fun hm => ?_, fun hne hd => ?_⟩
    · rcases this.1 with h | h
      · exact absurd hm h
      · exact h
    · rcases this.2 with h | h
      · exact hne (Nat.eq_of_beq_eq_true h)
      · simp [hd] at h
  · obtain ⟨⟨⟨⟨⟨a1, a2⟩, a3⟩, a4⟩, a5⟩, a6⟩ := core ho hp
    intro cs b hsel
    simp [hsel] at a6
  · obtain ⟨p, hp, hq⟩ := List.any_eq_true.1 (h3 r hr)
    simp only [Bool.and_eq_true] at hq
    obtain ⟨i, hi, rfl⟩ := List.mem_iff_getElem.1 hp
    exact ⟨i, _, by simp [hi], Nat.eq_of_beq_eq_true hq.1, Nat.eq_of_beq_eq_true hq.2⟩

/-- Two frames agree on what an operation looks at. -/
def Agree (all : Array Oper) (o : Oper) (tm tm' : Fr) : Prop := ∀ t ∈ o.looksAt all, tm'.get t = tm.get t
theorem Agree.ev {o : Oper} {tm tm' : Fr} (h : Agree all o tm tm') : ∀ x ∈ o.op.operands, ev tm' x = ev tm x := fun x hx => by
  cases x with
  | tmp t => exact h t (List.mem_append_left _ (List.mem_filterMap.2 ⟨.tmp t, by simpa using hx, rfl⟩))
  | _ => rfl
theorem Agree.guard {o : Oper} {tm tm' : Fr} (h : Agree all o tm tm') : guardV all tm' o = guardV all tm o := by
  unfold guardV
  cases hg : o.guard with
  | none => rfl
  | some g =>
    obtain ⟨j, want⟩ := g
    simp only
    cases hd : dstOf all j with
    | none => rfl
    | some t =>
      have : tm'.get t = tm.get t := h t (List.mem_append_right _ (by
        unfold dstOf at hd
        simp [hg, hd]))
      simp only [this]
theorem Agree.content {o : Oper} {tm tm' : Fr} (h : Agree all o tm tm') : contentO E (VI.ev tm') o = contentO E (VI.ev tm) o := by
  unfold contentO
  cases ho : o.op
  case box e x => simp only [h.ev x (by rw [ho]; simp [Op.operands])]
  case makeMap t r => cases r <;> rfl
  all_goals rfl

/-- What is known of an operation that has been read, or laid. -/
def Fact (E : Env) (all : Array Oper) (nm0 : Nat) (tm : Fr) (H : Heap) (j : Nat) (o : Oper) (p : Pl) : Prop := ∃ g, guardV all tm o = some g ∧
  (g = true → p.k = 0 → ∃ v H', opD E (ev tm) H H.next o = some (true, v, H') ∧ ∀ d, o.dst = some d → tm.get d = v) ∧
  (g = true → p.k ≠ 0 → ∃ blk d, contentO E (ev tm) o = some blk ∧ o.dst = some d ∧ tm.get d = nvO o (nm0 + j)) ∧
  (g = false → ∀ d, o.dst = some d → tm.get d = .tup [])

theorem Fact.move {nm0 : Nat} {tm tm' : Fr} {H : Heap} {j : Nat} {o : Oper} {p : Pl} (h : Fact E all nm0 tm H j o p) (ha : Agree all o tm tm') (hd : ∀ d, o.dst = some d → tm'.get d = tm.get d) : Fact E all nm0 tm' H j o p := by
  obtain ⟨g, h1, h2, h3, h4⟩ := h
  refine ⟨g, ha.guard.trans h1, fun hg hk => ?_, fun hg hk => ?_, fun hg d hdd => ?_⟩
  · obtain ⟨v, H', k1, k2⟩ := h2 hg hk
    exact ⟨v, H', (opD_congr ha.ev).trans k1, fun d hdd => (hd d hdd).trans (k2 d hdd)⟩
  · obtain ⟨blk, d, k1, k2, k3⟩ := h3 hg hk
    exact ⟨blk, d, ha.content.trans k1, k2, (hd d k2).trans k3⟩
  · exact (hd d hdd).trans (h4 hg d hdd)

theorem get_cons (d : Nat) (v : A) (tm : Fr) (t : Nat) : Fr.get ((d, v) :: tm) t = if d = t then v else tm.get t := by
  unfold Fr.get
  rw [luk_cons]
  by_cases h : d = t
  · rw [if_pos h, if_pos h]
  · rw [if_neg h, if_neg h]
theorem get_setT_ne {tm : Fr} {d : Option Nat} {v : A} {t : Nat} (h : d ≠ some t) : (setT tm d v).get t = tm.get t := by
  cases d with
  | none => rfl
  | some d =>
    show Fr.get ((d, v) :: tm) t = _
    rw [get_cons, if_neg (fun e => h (by rw [e]))]
theorem get_setT_self {tm : Fr} {d : Nat} {v : A} : (setT tm (some d) v).get d = v := by
  show Fr.get ((d, v) :: tm) d = _
  rw [get_cons, if_pos rfl]

theorem looks_lt (hp : PlOk all ps m) {i j : Nat} {o x : Oper} {p : Pl} {t : Nat} (ho : all[i]? = some o) (hpi : ps[i]? = some p) (hx : all[j]? = some x) (ht : x.dst = some t) (hl : t ∈ o.looksAt all) : j < i :=
  (hp.pre ho hpi ((hp.slot ho hpi hx ht).1 hl)).1

theorem bindK_spec (hp : PlOk all ps m) {q nm0 : Nat} {H : Heap} {k : Fr → Option R} {r : R} : ∀ (os : List Oper) (pss : List Pl) (i : Nat) (tm : Fr), (∀ j, os[j]? = all[i + j]?) → (∀ j, pss[j]? = ps[i + j]?) → bindK E all nm0 q i os pss tm H k = some r →
    ∃ tm1, k tm1 = some r ∧ (∀ t, (∀ (j : Nat) (o : Oper) (p : Pl), i ≤ j → all[j]? = some o → ps[j]? = some p → p.k ≠ 2 → p.lo = q → o.dst ≠ some t) → tm1.get t = tm.get t) ∧
      ∀ (j : Nat) (o : Oper) (p : Pl), i ≤ j → all[j]? = some o → ps[j]? = some p → p.k ≠ 2 → p.lo ≤ q → q ≤ p.hi → Fact E all nm0 tm1 H j o p
  | [], pss, i, tm, hos, hps, h => by
    simp only [bindK] at h
    refine ⟨tm, h, fun _ _ => rfl, fun j o p hj ho => ?_⟩
    have := hos (j - i)
    rw [show i + (j - i) = j by omega, ho] at this
    simp at this
  | o :: os, [], i, tm, hos, hps, h => by
    exfalso
    have h1 := hos 0
    have h2 := hps 0
    simp at h1 h2
    have := getElem?_lt h1.symm
    have h3 := hp.len
    omega
  | o :: os, p :: pss, i, tm, hos, hps, h => by
    have ho : all[i]? = some o := by simpa using (hos 0).symm
    have hpi : ps[i]? = some p := by simpa using (hps 0).symm
    have hos' : ∀ j, os[j]? = all[i + 1 + j]? := fun j => by have := hos (j + 1); simpa [Nat.add_assoc, Nat.add_comm 1 j] using this
    have hps' : ∀ j, pss[j]? = ps[i + 1 + j]? := fun j => by have := hps (j + 1); simpa [Nat.add_assoc, Nat.add_comm 1 j] using this
    have rest : ∀ tm', bindK E all nm0 q (i + 1) os pss tm' H k = some r → (∀ t, (p.k ≠ 2 → p.lo = q → o.dst ≠ some t) → tm'.get t = tm.get t) → (p.k ≠ 2 → p.lo ≤ q → q ≤ p.hi → Fact E all nm0 tm' H i o p) →
        ∃ tm1, k tm1 = some r ∧ (∀ t, (∀ (j : Nat) (o : Oper) (p : Pl), i ≤ j → all[j]? = some o → ps[j]? = some p → p.k ≠ 2 → p.lo = q → o.dst ≠ some t) → tm1.get t = tm.get t) ∧
          ∀ (j : Nat) (o : Oper) (p : Pl), i ≤ j → all[j]? = some o → ps[j]? = some p → p.k ≠ 2 → p.lo ≤ q → q ≤ p.hi → Fact E all nm0 tm1 H j o p := fun tm' hb hext hfact => by
      obtain ⟨tm1, k1, k2, k3⟩ := bindK_spec hp os pss (i + 1) tm' hos' hps' hb
      refine ⟨tm1, k1, fun t ht => ?_, fun j o' p' hj ho' hp' a1 a2 a3 => ?_⟩
      · rw [k2 t fun j o p hj => ht j o p (by omega), hext t (ht i o p (Nat.le_refl _) ho hpi)]
      · by_cases hji : j = i
        · subst hji
          rw [ho] at ho'; cases ho'
          rw [hpi] at hp'; cases hp'
          refine (hfact a1 a2 a3).move (fun t ht => k2 t fun j2 o2 p2 hj2 ho2 hp2 _ _ hd => ?_) (fun d hd => k2 d fun j2 o2 p2 hj2 ho2 hp2 _ _ hd2 => ?_)
          · have := looks_lt hp ho hpi ho2 hd ht
            omega
          · exact (hp.slot ho2 hp2 ho hd).2 (by omega) hd2
        · exact k3 j o' p' (by omega) ho' hp' a1 a2 a3
    have self : ∀ d, o.dst = some d → d ∉ o.looksAt all := fun d hd hl => by
      have := looks_lt hp ho hpi ho hd hl
      omega
    have agr : ∀ v, Agree all o tm (setT tm o.dst v) := fun v t ht => get_setT_ne fun hd => self t hd ht
    simp only [bindK] at h
    cases hact : (Nat.beq p.k 2 || !(Nat.ble p.lo q && Nat.ble q p.hi)) with
    | true =>
      rw [hact] at h
      refine rest tm h (fun _ _ => rfl) fun a1 a2 a3 => ?_
      exfalso
      have e1 : Nat.beq p.k 2 = false := by
        cases hh : Nat.beq p.k 2 with
        | false => rfl
        | true => exact absurd (Nat.eq_of_beq_eq_true hh) a1
      rw [e1, Nat.ble_eq_true_of_le a2, Nat.ble_eq_true_of_le a3] at hact
      cases hact
    | false =>
      rw [hact] at h
      simp only [Bool.or_eq_false_iff, Bool.not_eq_false', Bool.and_eq_true] at hact
      have hk2 : p.k ≠ 2 := fun e => by rw [e] at hact; simp at hact
      simp only [cond_false] at h
      split at h
      · cases h
      rename_i g hg
      rw [br_eq] at h
      split at h
      · rename_i hgt
        subst hgt
        cases hk0 : Nat.beq p.k 0 with
        | true =>
          rw [hk0] at h
          simp only [cond_true] at h
          have hk := Nat.eq_of_beq_eq_true hk0
          split at h
          · rename_i ok v H' hd
            rw [br_eq] at h
            split at h
            · rename_i hok
              subst hok
              cases hlo : Nat.beq p.lo q with
              | true =>
                rw [hlo] at h
                refine rest _ h (fun t ht => get_setT_ne (ht hk2 (Nat.eq_of_beq_eq_true hlo))) fun _ _ _ => ⟨true, (agr v).guard.trans hg, fun _ _ => ⟨v, H', (opD_congr (agr v).ev).trans hd, fun d hdd => by rw [hdd]; exact get_setT_self⟩, fun _ hkk => absurd hk hkk, fun hh => by cases hh⟩
              | false =>
                rw [hlo] at h
                simp only [cond_false, br_eq] at h
                split at h
                · rename_i hs
                  refine rest tm h (fun _ _ => rfl) fun _ _ _ => ⟨true, hg, fun _ _ => ⟨v, H', hd, fun d hdd => ?_⟩, fun _ hkk => absurd hk hkk, fun hh => by cases hh⟩
                  rw [hdd] at hs
                  exact (A.same_eq hs).symm
                · cases h
            · cases h
          · cases h
        | false =>
          rw [hk0] at h
          have hkn : p.k ≠ 0 := fun e => by rw [e] at hk0; cases hk0
          simp only [cond_false] at h
          split at h
          · rename_i blk d hcont hdst
            cases hlo : Nat.beq p.lo q with
            | true =>
              rw [hlo] at h
              have h : bindK E all nm0 q (i + 1) os pss (setT tm o.dst (nvO o (nm0 + i))) H k = some r := by rw [hdst]; exact h
              refine rest _ h (fun t ht => get_setT_ne (ht hk2 (Nat.eq_of_beq_eq_true hlo))) fun _ _ _ => ⟨true, (agr _).guard.trans hg, fun _ hkk => absurd hkk hkn, fun _ _ => ⟨blk, d, (agr _).content.trans hcont, hdst, by rw [hdst]; exact get_setT_self⟩, fun hh => by cases hh⟩
            | false =>
              rw [hlo] at h
              simp only [cond_false, br_eq] at h
              split at h
              · rename_i hs
                exact rest tm h (fun _ _ => rfl) fun _ _ _ => ⟨true, hg, fun _ hkk => absurd hkk hkn, fun _ _ => ⟨blk, d, hcont, hdst, (A.same_eq hs).symm⟩, fun hh => by cases hh⟩
              · cases h
          · cases h
      · rename_i hgf
        have hgf : g = false := by simpa using hgf
        subst hgf
        cases hlo : Nat.beq p.lo q with
        | true =>
          rw [hlo] at h
          refine rest _ h (fun t ht => get_setT_ne (ht hk2 (Nat.eq_of_beq_eq_true hlo))) fun _ _ _ => ⟨false, (agr _).guard.trans hg, (fun hh => by cases hh), (fun hh => by cases hh), fun _ d hdd => by rw [hdd]; exact get_setT_self⟩
        | false =>
          rw [hlo] at h
          simp only [cond_false, br_eq] at h
          split at h
          · rename_i hs
            refine rest tm h (fun _ _ => rfl) fun _ _ _ => ⟨false, hg, (fun hh => by cases hh), (fun hh => by cases hh), fun _ d hdd => ?_⟩
            rw [hdd] at hs
            exact (A.same_eq hs).symm
          · cases h

end Go.VI
