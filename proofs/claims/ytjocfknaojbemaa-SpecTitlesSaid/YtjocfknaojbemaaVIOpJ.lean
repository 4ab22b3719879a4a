/-
  Each operation does what the interpreter says: part J (maps: entries set, entries taken away, maps made).
-/
import Derived.Test.YtjocfknaojbemaaVIOpI
namespace Go.VI

variable {P : Program} {E : Env} {C : Cx} {a : Act} {ρ : Operand → A}

/-- A map's block changes. -/
def Cx.setMap (C : Cx) (n b : Nat) (blk : Blk) (me : Array MapEntry) (clock : Nat) : Cx := { C with w := { C.w with heap := C.w.heap.setIfInBounds b (.map me clock) }, H := C.H.set n blk }

theorem setMap_upd (hR : Rel C) {n b : Nat} {ka va : Bool} {κ ν : Ty} {es es' : List (κ.den × ν.den)} {me : Array MapEntry} {clock : Nat} (hg : C.H.get n = some (.tmap true ka va κ ν es)) (hb : C.ρ n = some b) :
    Upd C (C.setMap n b (.tmap true ka va κ ν es') me clock) n (.tmap true ka va κ ν es) (.tmap true ka va κ ν es') where
  get := hg
  rw := rfl
  H := rfl
  ρ := rfl
  η := fun _ _ => rfl
  size := by simp [Cx.setMap]
  frame := fun k hk hne => by
    have : b ≠ k := fun h => hne (by simp [blockOf, hb, h])
    simp [Cx.setMap, Array.getElem?_setIfInBounds_ne this]
  own := fun k hk => .inl hk
  hid := rfl
  free := fun k hk => (hR.hid k hk).2 _ _ hg
  gen := fun g hg => by cases hg
  os := rfl
  tape := rfl
  output := rfl

theorem op_put {K : TypeId → Option (List TK × Bool)} (hK : KeyOk P K) {o : Oper} {t kt b : Nat} {m key x : Operand} {i : TI} {v : A} {H1 : Heap} {n : Nat} {ka va : Bool} {κ ν : Ty} {es : List (κ.den × ν.den)} (hR : Rel C) (hρ : ∀ x, VR C (ρ x) (a.eval x)) (ho : o.op = .mapUpdate t m key x ∨ o.op = .insert t m key x)
    (hi : tiOf P t = some i) (hk : i.kind = .map kt b) (hm : ρ m = .map n) (hg : C.H.get n = some (.tmap true ka va κ ν es)) (h : putD K kt C.H (ρ m) (ρ key) (ρ x) = some (true, v, H1)) : OutR P a o C v H1 := by
  obtain ⟨ii, d, _, hu, hkd, _, _, _, _⟩ := tiOf_some hi
  rw [hk] at hkd
  have := kindOf_map hkd
  subst this
  have h1 := hρ m
  rw [hm] at h h1
  simp only [putD, hg] at h
  split at h
  case h_2 => cases h
  rename_i cs vs hf hfx
  split at h
  case isFalse => cases h
  rename_i hc
  obtain ⟨hc3, hc4, hc5⟩ := hc
  split at h
  case h_2 => cases h
  rename_i y H0 hd1
  split at h
  case h_2 => cases h
  rename_i z H2 hd2
  split at h
  case h_2 => cases h
  rename_i ka' va' κ' ν' es' hg2
  cases h
  generalize hax : a.eval m = ax at h1
  cases h1 with
  | map _ bb hb =>
  obtain ⟨bb', me, clock, hb', hw, hM, hpw⟩ := hR.blocks n _ hg
  rw [hb] at hb'
  cases hb'
  have hkv := full_VRv (hρ key) hf
  have hxv := full_VRv (hρ x) hfx
  obtain ⟨ks, hks, hfit, hag⟩ := keyOk_some hK hc3
  have hbq := (fitK_beq κ hfit).1
  have hkc := decH_plain hR hkv.1 hd1
  have hkv2 : VRv C ka (enc κ y) (a.eval key) := ⟨hkc, by rw [← hc4]; exact hkv.2⟩
  have hck := checkKey_sound 8 hks (D := 10000) (by omega) (emp := false) (c := (a.eval key).cells.toList) (w := C.w) (by
    rw [hkc.1]; have := eqCells_length (fitK_eq hfit y y); exact this.1)
  rw [valOf_cells hag hkv2.2] at hck
  have hun : ∃ du, P.underlying kt = some du := by
    unfold flatK at hks; split at hks <;> first | exact ⟨_, by assumption⟩ | cases hks
  obtain ⟨du, hdu⟩ := hun
  obtain ⟨l, hl, ht, hnd, hck2⟩ := tmap_open hM
  have hget : (getObj bb).run P C.w = .ok (.map me clock) C.w := run_getObj_at hw
  obtain ⟨hF, hz, hr0, hzl⟩ := decH_sound ν hR hxv.1 hd2
  have hzlen : vs.length = ν.size := by
    have := congrArg List.length hr0
    simp at this; omega
  rw [List.take_of_length_le (by rw [hxv.1.1, hzlen]; exact Nat.le_refl _)] at hz
  have hR2 : Rel (C.at H2) := hF.rel hR
  have hg3 := hF.rw (C1 := C.at H2) hg2 rfl
  rw [hg] at hg3
  cases hg3
  have hb2 : (C.at H2).ρ n = some bb := hb
  rcases search_sound hks hfit hag hdu hl ht hpw hkv2 with ⟨s1, s2, s3⟩ | ⟨j, hj, hj', s1, s2, s3⟩
  · -- a new key
    let me' := me.push { key := a.eval key, val := a.eval x, born := clock }
    have hU := setMap_upd hR2 (es' := es ++ [(y, z)]) (me := me') (clock := clock + 1) (C := C.at H2) hg2 hb2
    have hst := hF.step.trans hU.step
    rw [upd_new hbq s3]
    refine ⟨(C.at H2).setMap n bb (.tmap true ka va κ ν (es ++ [(y, z)])) me' (clock + 1), .skip, undef, rfl, ?_, .inr ⟨rfl, rfl⟩, .bot _, hU.rel hR2 ?_, hst⟩
    · have hset : (setObj bb (.map me' (clock + 1))).run P C.w = .ok () { C.w with heap := C.w.heap.setIfInBounds bb (.map me' (clock + 1)) } := run_setObj_at hw
      rcases ho with ho | ho <;> simp only [execOp, ho, hax, Instr.mapUpdate, Sem.run_bind, run_underlying hu, Result.andThen_ok, Sem.run_pure, hget, hck, s1] <;> simp only [me'] at hset <;> rw [hset] <;> rfl
    · refine ⟨bb, me', clock + 1, hb, ?_, tmap_close (l := l ++ [(y, z)]) (hl.append_right _) ⟨by simp [me', ht.size], fun i hi hi' => ?_⟩ ?_ ?_, ?_⟩
      · show (C.w.heap.setIfInBounds bb _)[bb]? = _
        rw [Array.getElem?_setIfInBounds_self_of_lt (heap_lt hw)]
      · by_cases hil : i < me.size
        · have hil' : i < l.length := by rw [ht.size]; exact hil
          have := ht.ent i hil hil'
          simp only [me', Array.getElem_push_lt hil, List.getElem_append_left hil']
          exact ⟨this.1.keep hst, this.2.keep hst⟩
        · have hie : i = me.size := by simp [me'] at hi; omega
          subst hie
          have e1 : (l ++ [(y, z)])[me.size] = (y, z) := by
            rw [List.getElem_append_right (by rw [ht.size]; exact Nat.le_refl _)]
            simp [ht.size]
          simp only [me', Array.getElem_push_eq, e1]
          exact ⟨hkv2.keep hst, ⟨hz.keep hU.step, by rw [← hc5]; exact hxv.2⟩⟩
      · simp only [me', Array.toList_push, List.map_append, List.map_cons, List.map_nil]
        rw [List.nodup_append]
        refine ⟨hnd, by simp, fun u hu v hv => ?_⟩
        simp only [List.mem_singleton] at hv
        subst hv
        obtain ⟨e, he, rfl⟩ := List.mem_map.1 hu
        have := hck2 e he
        omega
      · intro e he
        simp only [me', Array.toList_push, List.mem_append, List.mem_singleton] at he
        rcases he with he | rfl
        · have := hck2 e he; omega
        · exact Nat.lt_succ_self _
      · rw [List.pairwise_append]
        refine ⟨hpw, by simp, fun u hu v hv => ?_⟩
        simp only [List.mem_singleton] at hv
        subst hv
        cases hh : κ.beq u.1 y with
        | false => rfl
        | true => exact absurd ((hbq _ _).1 hh) (s3 u hu)
  · -- a key that is there
    have hkey : VRv C ka (enc κ y) me[j].key := by rw [← s2]; exact (ht.ent j hj hj').1
    have hsb : Instr.sameBits 10000 me[j].key (a.eval key) = true := sameBits_sound hfit (fun hka => by
      have h3 := hkv2.2
      have h4 := hkc.1
      rw [hka] at h3
      simp only [Bool.false_eq_true, if_false] at h3
      have e1 : (a.eval key).cells.toList.length = 1 := by
        cases hh : a.eval key <;> first | rfl | (exfalso; rw [hh] at h3; revert h3; simp [oneC, Value.oneCell'])
      omega) hkey hkv2
    let me' := me.modify j fun e => { e with key := a.eval key, val := a.eval x }
    have hmem : l[j] ∈ es := hl.subset (List.getElem_mem hj')
    rw [upd_old hbq hmem s2]
    have hU := setMap_upd hR2 (es' := es.map (updF y z)) (me := me') (clock := clock) (C := C.at H2) hg2 hb2
    have hst := hF.step.trans hU.step
    have hlp := pairwise_perm hbq hl hpw
    have hme : ∀ i (h : i < me.size), ∃ h' : i < me'.size, me'[i] = if j = i then { me[i] with key := a.eval key, val := a.eval x } else me[i] := fun i h => ⟨by simpa [me'] using h, by simp [me', Array.getElem_modify]⟩
    refine ⟨(C.at H2).setMap n bb (.tmap true ka va κ ν (es.map (updF y z))) me' clock, .skip, undef, rfl, ?_, .inr ⟨rfl, rfl⟩, .bot _, hU.rel hR2 ?_, hst⟩
    · have hset : (setObj bb (.map me' clock)).run P C.w = .ok () { C.w with heap := C.w.heap.setIfInBounds bb (.map me' clock) } := run_setObj_at hw
      have hkts : (Instr.keyThatStays (((me[j]?).map (·.key)).getD (a.eval key)) (a.eval key)).run P C.w = .ok (a.eval key) C.w := by
        simp only [Array.getElem?_eq_getElem hj, Option.map_some, Option.getD_some, Instr.keyThatStays, hsb, if_true, Sem.run_pure]
      rcases ho with ho | ho <;> simp only [execOp, ho, hax, Instr.mapUpdate, Sem.run_bind, run_underlying hu, Result.andThen_ok, Sem.run_pure, hget, hck, s1, hkts] <;> simp only [me'] at hset <;> rw [hset] <;> rfl
    · refine ⟨bb, me', clock, hb, ?_, tmap_close (l := l.map (updF y z)) (hl.map _) ⟨by simp [me', ht.size], fun i hi hi' => ?_⟩ ?_ ?_, ?_⟩
      · show (C.w.heap.setIfInBounds bb _)[bb]? = _
        rw [Array.getElem?_setIfInBounds_self_of_lt (heap_lt hw)]
      · have hi2 : i < me.size := by simpa [me'] using hi
        have hi3 : i < l.length := by rw [ht.size]; exact hi2
        obtain ⟨_, e1⟩ := hme i hi2
        have e2 : (l.map (updF y z))[i] = if j = i then (y, z) else l[i] := by
          have := map_set (v := z) hbq hlp hj' s2
          simp only [this, List.getElem_set]
        rw [e1, e2]
        by_cases hij : j = i
        · subst hij
          simp only [if_true]
          exact ⟨hkv2.keep hst, ⟨hz.keep hU.step, by rw [← hc5]; exact hxv.2⟩⟩
        · simp only [if_neg hij]
          have := ht.ent i hi2 hi3
          exact ⟨this.1.keep hst, this.2.keep hst⟩
      · have : me'.toList.map (·.born) = me.toList.map (·.born) := by
          refine List.ext_getElem (by simp [me']) fun i h1 h2 => ?_
          have hi2 : i < me.size := by simpa using h2
          obtain ⟨_, e1⟩ := hme i hi2
          simp only [List.getElem_map, Array.getElem_toList, e1]
          split <;> rfl
        rw [this]; exact hnd
      · intro e he
        obtain ⟨i, hi, rfl⟩ := List.getElem_of_mem he
        have hi2 : i < me.size := by simpa [me'] using hi
        obtain ⟨_, e1⟩ := hme i hi2
        have h5 := hck2 me[i] (by simp)
        simp only [Array.getElem_toList, e1]
        split <;> exact h5
      · rw [List.pairwise_map]
        exact hpw.imp fun {u v} huv => by rw [updF_fst, updF_fst]; exact huv

end Go.VI
