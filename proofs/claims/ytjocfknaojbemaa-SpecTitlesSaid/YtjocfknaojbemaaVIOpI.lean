/-
  Each operation does what the interpreter says: part I (maps: look-ups, entries set and taken away).
-/
import Derived.Test.YtjocfknaojbemaaVIOpH
namespace Go.VI

variable {P : Program} {E : Env} {C : Cx} {a : Act} {ρ : Operand → A}

theorem run_getObj_at {b : Nat} {me : Array MapEntry} {clock : Nat} {w : World} (h : w.heap[b]? = some (.map me clock)) : (getObj b).run P w = .ok (.map me clock) w := by
  simp [getObj, Sem.run, h]
theorem run_setObj_at {b : Nat} {o : Obj} {me : Array MapEntry} {clock : Nat} {w : World} (h : w.heap[b]? = some (.map me clock)) : (setObj b o).run P w = .ok () { w with heap := w.heap.setIfInBounds b o } := by
  simp [setObj, Sem.run, h]

theorem one_VRv {ag : Bool} {cs : List A} {c : Value} {v : A} (hc : VRv C ag cs c) (h : one ag cs = some v) : VR C v c := by
  have h1 := one_VR hc.1 h
  cases ag with
  | true =>
    have h2 := hc.2
    simp only [if_true] at h2
    obtain ⟨x, rfl⟩ := h2
    simpa [Value.cells] using h1
  | false =>
    have h2 := hc.2
    simp only [Bool.false_eq_true, if_false] at h2 h1
    cases c <;> first | exact h1 | (exfalso; revert h2; simp [oneC, Value.oneCell'])

theorem zero_VRv {t : TypeId} {i : TI} {cs : List A} (hi : tiOf P t = some i) (hz : i.zero.full = some cs) : ∃ z, (∀ w, (zeroValue t).run P w = .ok z w) ∧ ∀ C, VR C i.zero z ∧ VRv C i.zero.isAgg cs z := by
  obtain ⟨ii, d, h1, h2, _, _, _, _, h6⟩ := tiOf_some hi
  cases hzz : ii.zero with
  | none => rw [hzz] at h6; rw [h6] at hz; cases hz
  | some z =>
    rw [hzz] at h6
    refine ⟨z, fun w => run_zeroValue h1 hzz w, fun C => ?_⟩
    have : VR C i.zero z := by rw [h6]; exact ofConst_VR C z
    exact ⟨this, full_VRv this hz⟩

theorem okA_VR {ok : Bool} {v : A} {cv : Value} {b : Bool} (h : VR C v cv) : VR C (okA ok v b) (if ok then .tuple #[cv, .bool b] else cv) := by
  cases ok with
  | false => exact h
  | true =>
    refine .tup _ _ rfl fun i hi => ?_
    match i, hi with
    | 0, _ => exact h
    | 1, _ => exact .bool b

theorem op_lookup {K : TypeId → Option (List TK × Bool)} (hK : KeyOk P K) {o : Oper} {t kt b : Nat} {x ix : Operand} {ok : Bool} {i ib : TI} {v : A} (hR : Rel C) (hρ : ∀ x, VR C (ρ x) (a.eval x)) (ho : o.op = .lookup t x ix ok)
    (hi : tiOf P t = some i) (hk : i.kind = .map kt b) (hib : tiOf P b = some ib) (h : lookD K kt C.H ib (ρ x) (ρ ix) ok = some v) : OutR P a o C v C.H := by
  obtain ⟨ii, d, _, hu, hkd, _, _, _, _⟩ := tiOf_some hi
  rw [hk] at hkd
  have := kindOf_map hkd
  subst this
  have h1 := hρ x
  unfold lookD at h
  split at h
  · rename_i hx
    split at h
    · rename_i cs zs hf hz
      split at h
      · rename_i hn
        cases h
        rw [hx] at h1
        generalize hax : a.eval x = ax at h1
        cases h1
        obtain ⟨z, hz1, hz2⟩ := zero_VRv hib hz
        have hkv := full_VRv (hρ ix) hf
        unfold nilOk at hn
        split at hn
        case h_2 => cases hn
        rename_i ks ag hKk
        obtain ⟨hks, hag⟩ := hK _ _ _ hKk
        simp only [Bool.and_eq_true, beq_iff_eq] at hn
        obtain ⟨hn1, hn2⟩ := hn
        rw [← hag] at hn2
        have hn1 := Nat.eq_of_beq_eq_true hn1
        have hck := checkKey_sound 8 hks (D := 10000) (by omega) (emp := true) (c := (a.eval ix).cells.toList) (w := C.w) (by rw [hkv.1.1, hn1])
        rw [valOf_cells hn2 hkv.2] at hck
        have hun : ∃ du, P.underlying kt = some du := by
          unfold flatK at hks; split at hks <;> first | exact ⟨_, by assumption⟩ | cases hks
        obtain ⟨du, hdu⟩ := hun
        refine OutR.same (cv := if ok then .tuple #[z, .bool false] else z) hR ?_ (okA_VR (hz2 C).1)
        have hfk : (Instr.findKey kt (a.eval ix) []).run P C.w = .ok none C.w := by
          simp [Instr.findKey, run_underlying hdu, Instr.findNow]
        simp only [execOp, ho, hax, Instr.lookup, Sem.run_bind, run_underlying hu, Result.andThen_ok, Sem.run_pure]
        simp only [show (#[] : Array MapEntry).isEmpty = true from rfl, hck, Result.andThen_ok, hfk, hz1, Sem.run_bind, Sem.run_pure]
      · cases h
    · cases h
  · rename_i n hx
    split at h
    · rename_i rw ka va κ ν es cs zs hg hf hz
      split at h
      · rename_i hc
        obtain ⟨⟨hc1, hc2⟩, hc3, hc4⟩ := hc
        split at h
        · rename_i key H1 z H2 hd1 hd2
          obtain ⟨u, h3, h4⟩ := Option.map_eq_some_iff.1 h
          subst h4
          rw [hx] at h1
          generalize hax : a.eval x = ax at h1
          cases h1 with
          | map _ bb hb =>
          obtain ⟨bb', me, clock, hb', hw, hM, hpw⟩ := hR.blocks n _ hg
          rw [hb] at hb'
          cases hb'
          obtain ⟨zv, hz1, hz2⟩ := zero_VRv hib hz
          have hkv := full_VRv (hρ ix) hf
          obtain ⟨ks, hks, hfit, hag⟩ := keyOk_some hK hc3
          have hkc := decH_plain hR hkv.1 hd1
          have hkv2 : VRv C ka (enc κ key) (a.eval ix) := ⟨hkc, by rw [← hc4]; exact hkv.2⟩
          have hck := checkKey_sound 8 hks (D := 10000) (by omega) (emp := me.isEmpty) (c := (a.eval ix).cells.toList) (w := C.w) (by
            rw [hkc.1]; have := eqCells_length (fitK_eq hfit key key); exact this.1)
          rw [valOf_cells hag hkv2.2] at hck
          have hun : ∃ du, P.underlying kt = some du := by
            unfold flatK at hks; split at hks <;> first | exact ⟨_, by assumption⟩ | cases hks
          obtain ⟨du, hdu⟩ := hun
          obtain ⟨l, hl, ht, _, _⟩ := tmap_open hM
          have hget : (getObj bb).run P C.w = .ok (.map me clock) C.w := run_getObj_at hw
          rcases search_sound hks hfit hag hdu hl ht hpw hkv2 with ⟨s1, s2, _⟩ | ⟨j, hj, hj', s1, s2, s3⟩
          · have hzv : VRv C ib.agg (enc ν z) zv := ⟨decH_plain hR (hz2 C).2.1 hd2, by rw [← hc2]; exact (hz2 C).2.2⟩
            rw [s2] at h3 ⊢
            refine OutR.same (cv := if ok then .tuple #[zv, .bool false] else zv) hR ?_ (okA_VR (one_VRv hzv h3))
            simp only [execOp, ho, hax, Instr.lookup, Sem.run_bind, run_underlying hu, Result.andThen_ok, Sem.run_pure, hget, hck, s1, hz1]
          · rw [s3] at h3 ⊢
            have hvv : VRv C ib.agg (enc ν l[j].2) me[j].val := by rw [← hc1]; exact (ht.ent j hj hj').2
            refine OutR.same (cv := if ok then .tuple #[me[j].val, .bool true] else me[j].val) hR ?_ (okA_VR (one_VRv hvv h3))
            simp only [execOp, ho, hax, Instr.lookup, Sem.run_bind, run_underlying hu, Result.andThen_ok, Sem.run_pure, hget, hck, s1]
        · cases h
      · cases h
    · cases h
  · cases h

def scalarA : A → Prop
  | .bool _ | .int _ _ | .str _ => True
  | _ => False
theorem fitK_scalar : (κ : Ty) → ∀ {l r : List TK}, fitK κ l = some r → ∀ x : κ.den, ∀ c ∈ enc κ x, scalarA c
  | .unit, _, _, _, _, c, hc => by simp [enc] at hc
  | .bool, _, _, _, _, c, hc => by simp only [enc, List.mem_singleton] at hc; subst hc; trivial
  | .int _, _, _, _, _, c, hc => by simp only [enc, List.mem_singleton] at hc; subst hc; trivial
  | .str, _, _, _, _, c, hc => by simp only [enc, List.mem_singleton] at hc; subst hc; trivial
  | .sl _, _, _, h, _, _, _ => by cases h
  | .ref _, _, _, h, _, _, _ => by cases h
  | .fn, _, _, h, _, _, _ => by cases h
  | .nsl _, _, _, h, _, _, _ => by cases h
  | .pair p q, l, r, h, x, c, hc => by
    have h' : (match fitK p l with
      | some r => fitK q r
      | none => none) = some r := h
    split at h'
    · rename_i m hm
      simp only [enc, List.mem_append] at hc
      rcases hc with hc | hc
      · exact fitK_scalar p hm x.1 c hc
      · exact fitK_scalar q h' x.2 c hc
    · cases h'

theorem bytes_ext {s u : ByteArray} (h : s.data.toList = u.data.toList) : s = u := by
  obtain ⟨s⟩ := s
  obtain ⟨u⟩ := u
  congr 1
  exact Array.toList_inj.1 h

theorem sameBits_scalar {x : A} {u v : Value} (n : Nat) (hx : scalarA x) (hu : VR C x u) (hv : VR C x v) : Instr.sameBits n u v = true := by
  cases x <;> first | exact False.elim hx | skip
  · cases hu; cases hv; cases n <;> simp [Instr.sameBits]
  · cases hu; cases hv; cases n <;> simp [Instr.sameBits]
  · cases hu with
    | str _ s1 e1 =>
    cases hv with
    | str _ s2 e2 =>
    have : s1 = s2 := bytes_ext (by rw [e1, e2])
    subst this
    have hh : (s1 == s1) = true := by rw [beq_toListBytes]; simp
    cases n <;> simp only [Instr.sameBits, hh]

theorem sameBits_sound {κ : Ty} {ks : List TK} {ka : Bool} {y : κ.den} {u v : Value} (hf : fitK κ ks = some []) (hl : ka = false → (enc κ y).length = 1) (hu : VRv C ka (enc κ y) u) (hv : VRv C ka (enc κ y) v) : Instr.sameBits 10000 u v = true := by
  have hs := fitK_scalar κ hf y
  cases ka with
  | false =>
    have h1 := hu.2
    have h2 := hv.2
    simp only [Bool.false_eq_true, if_false] at h1 h2
    have l1 := hl rfl
    obtain ⟨x, hx⟩ := List.length_eq_one_iff.1 l1
    have e1 : u.cells.toList = [u] := by cases u <;> first | rfl | (exfalso; revert h1; simp [oneC, Value.oneCell'])
    have e2 : v.cells.toList = [v] := by cases v <;> first | rfl | (exfalso; revert h2; simp [oneC, Value.oneCell'])
    have k1 := hu.1.2.1 0 (by omega)
    have k2 := hv.1.2.1 0 (by omega)
    rw [hx, e1] at k1
    rw [hx, e2] at k2
    exact sameBits_scalar _ (hs x (by rw [hx]; simp)) k1 k2
  | true =>
    obtain ⟨c, hc⟩ := hu.2
    obtain ⟨d, hd⟩ := hv.2
    subst hc hd
    have l1 := hu.1.1
    have l2 := hv.1.1
    simp only [Value.cells, Array.length_toList] at l1 l2
    have : Instr.sameBits (9999 + 1) (.agg c) (.agg d) = true := by
      unfold Instr.sameBits
      simp only [Bool.and_eq_true, beq_iff_eq, List.all_eq_true]
      refine ⟨by omega, fun p hp => ?_⟩
      obtain ⟨i, hi, rfl⟩ := List.getElem_of_mem hp
      simp only [List.length_zip, Array.length_toList] at hi
      have hi' : i < (enc κ y).length := by omega
      have k1 := hu.1.2.1 i hi'
      have k2 := hv.1.2.1 i hi'
      have g1 : (Value.agg c).cells.toList.getD i undef = c[i] := by simp [Value.cells, List.getD_eq_getElem?_getD, show i < c.size by omega]
      have g2 : (Value.agg d).cells.toList.getD i undef = d[i] := by simp [Value.cells, List.getD_eq_getElem?_getD, show i < d.size by omega]
      rw [g1] at k1
      rw [g2] at k2
      simp only [List.getElem_zip, Array.getElem_toList]
      refine sameBits_scalar _ (hs _ ?_) k1 k2
      rw [List.getD_eq_getElem?_getD, List.getElem?_eq_getElem hi']
      exact List.getElem_mem hi'
    exact this

theorem upd_new {κ ν : Ty} {es : List (κ.den × ν.den)} {key : κ.den} {v : ν.den} (hb : ∀ x y : κ.den, κ.beq x y = true ↔ x = y) (h : ∀ e ∈ es, e.1 ≠ key) : upd es key v = es ++ [(key, v)] := by
  unfold upd
  have : es.any (fun e => κ.beq e.1 key) = false := by
    rw [List.any_eq_false]
    exact fun e he hh => h e he ((hb _ _).1 hh)
  rw [this, br_eq]
  rfl

def updF {κ ν : Ty} (key : κ.den) (v : ν.den) (e : κ.den × ν.den) : κ.den × ν.den := br (κ.beq e.1 key) (e.1, v) e
theorem updF_fst {κ ν : Ty} (key : κ.den) (v : ν.den) (e : κ.den × ν.den) : (updF key v e).1 = e.1 := by
  unfold updF; rw [br_eq]; split <;> rfl
theorem upd_old {κ ν : Ty} {es : List (κ.den × ν.den)} {key : κ.den} {v : ν.den} (hb : ∀ x y : κ.den, κ.beq x y = true ↔ x = y) {e : κ.den × ν.den} (he : e ∈ es) (hk : e.1 = key) : upd es key v = es.map (updF key v) := by
  unfold upd
  have : es.any (fun e => κ.beq e.1 key) = true := List.any_eq_true.2 ⟨e, he, (hb _ _).2 hk⟩
  rw [this, br_eq]
  rfl

theorem map_set {κ ν : Ty} {l : List (κ.den × ν.den)} {key : κ.den} {v : ν.den} (hb : ∀ x y : κ.den, κ.beq x y = true ↔ x = y) (hp : l.Pairwise (fun x y => κ.beq x.1 y.1 = false)) {j : Nat} (hj : j < l.length) (hk : l[j].1 = key) :
    l.map (updF key v) = l.set j (key, v) := by
  refine List.ext_getElem (by simp) fun i h1 h2 => ?_
  simp only [List.length_map] at h1
  rw [List.getElem_map, List.getElem_set]
  unfold updF
  rw [br_eq]
  rw [List.pairwise_iff_getElem] at hp
  by_cases hij : j = i
  · subst hij
    rw [if_pos ((hb _ _).2 hk), if_pos rfl, hk]
  · rw [if_neg hij]
    have hne : κ.beq l[i].1 key = false := by
      rw [← hk]
      rcases Nat.lt_or_gt_of_ne hij with h | h
      · have := hp j i hj h1 h
        cases hh : κ.beq l[i].1 l[j].1 with
        | false => rfl
        | true =>
          rw [(hb _ _).2 ((hb _ _).1 hh).symm] at this
          cases this
      · exact hp i j h1 hj h
    rw [hne]
    simp

theorem pairwise_perm {κ ν : Ty} {l es : List (κ.den × ν.den)} (hb : ∀ x y : κ.den, κ.beq x y = true ↔ x = y) (h : l.Perm es) (hp : es.Pairwise (fun x y => κ.beq x.1 y.1 = false)) : l.Pairwise (fun x y => κ.beq x.1 y.1 = false) := by
  refine (List.Perm.pairwise_iff (fun {x y} hxy => ?_) h).2 hp
  cases hh : κ.beq y.1 x.1 with
  | false => rfl
  | true =>
    rw [(hb _ _).2 ((hb _ _).1 hh).symm] at hxy
    cases hxy

end Go.VI
