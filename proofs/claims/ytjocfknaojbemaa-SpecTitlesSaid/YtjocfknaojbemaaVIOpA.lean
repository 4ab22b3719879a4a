/-
  Each operation does what the interpreter says: part A (values, new blocks, loads, stores).
-/
import Derived.Test.YtjocfknaojbemaaVIMem
namespace Go.VI

variable {P : Program} {E : Env} {C : Cx} {a : Act} {ρ : Operand → A}

theorem ofScalar_VR (C : Cx) (v : Value) : VR C (ofScalar v) v := by
  unfold ofScalar
  split <;> first | exact .bot _ | constructor
  rfl

theorem ofConst_VR (C : Cx) (v : Value) : VR C (ofConst v) v := by
  unfold ofConst
  split
  · rename_i cs
    split
    · rename_i h
      refine .agg _ _ (by simp) (fun i hi => ?_) (fun i hi => ?_)
      · simp at hi
        simp [List.getD_eq_getElem?_getD, Array.getD_eq_getD_getElem?, hi]
        exact ofScalar_VR C _
      · simp at hi
        rw [List.all_eq_true] at h
        have := h cs[i] (by simp)
        simp [Array.getD_eq_getD_getElem?, hi]
        exact this
    · exact .bot _
  · exact .bot _
  · exact ofScalar_VR C _

theorem full_VRs {x : A} {v : Value} {cs : List A} (h : VR C x v) (hf : x.full = some cs) : VRs C cs v.cells.toList := by
  have one : ∀ {y : A} {u : Value}, VR C y u → oneC u → u.cells = #[u] → VRs C [y] u.cells.toList := fun h1 h2 h3 => by
    rw [h3]; exact .cons h1 h2 (VRs.nil _)
  cases h <;> simp only [A.full] at hf
  case bot => cases hf
  case tup => cases hf
  case agg cs' c hs hc h1 =>
    cases hf
    refine ⟨by simpa [Value.cells] using hs, fun i hi => ?_, fun i hi => ?_⟩
    · simpa [Value.cells, Array.getD_eq_getD_getElem?, List.getD_eq_getElem?_getD] using hc i hi
    · simpa [Value.cells, Array.getD_eq_getD_getElem?, List.getD_eq_getElem?_getD] using h1 i hi
  case rptr n g i o hn hg h1 h2 =>
    cases hf
    refine one (.rptr n g i o v hn h1 hg h2) h1 ?_
    cases v <;> first | rfl | cases h1
  all_goals
    cases hf
    refine one ?_ rfl rfl
    constructor <;> assumption

theorem VRs.cells_size {cs : List A} {v : Value} (h : VRs C cs v.cells.toList) : v.cells.size = cs.length := by simpa using h.1

/-- What is claimed of an operation. -/
def OutR (P : Program) (a : Act) (o : Oper) (C : Cx) (v : A) (H1 : Heap) : Prop :=
  ∃ C' nx cv, C'.H = H1 ∧ (execOp a.eval o).run P C.w = .ok nx C'.w ∧ (nx = .value cv ∨ (nx = .skip ∧ cv = undef)) ∧ VR C' v cv ∧ Rel C' ∧ Step C C'

theorem OutR.same {o : Oper} {v : A} {cv : Value} (hR : Rel C) (hr : (execOp a.eval o).run P C.w = .ok (.value cv) C.w) (hv : VR C v cv) : OutR P a o C v C.H :=
  ⟨C, _, cv, rfl, hr, .inl rfl, hv, hR, Step.refl C⟩

theorem alloc_out {o : Oper} {nm : Nat} {cs : List A} {c : Array Value} {e : TypeId} (hR : Rel C) (hn : C.H.next ≤ nm) (hv : VRs C cs c.toList)
    (hr : (execOp a.eval o).run P C.w = .ok (.value (.pointer (some ⟨C.w.heap.size, 0, none⟩))) (C.w.alloc (.cells c e))) :
    OutR P a o C (.ptr nm 0) (C.H.put nm (.cells true cs)) := by
  have he : ∀ b cp, (none : Option (Nat × Nat)) = some (b, cp) → b = C.w.heap.size := fun _ _ h => by cases h
  have hs := Cx.new_step hR hn (.cells true cs) (.cells c e) none he
  refine ⟨C.new nm (.cells true cs) (.cells c e) none, _, _, rfl, hr, .inl rfl, .ptr _ _ _ (by simp [Cx.new]), Cx.new_rel hR hn he ?_, hs⟩
  exact ⟨C.w.heap.size, c, e, (0, 0), by simp [Cx.new], heap_alloc_new _ _, hv.keep hs, fun i _ h => by simp at h⟩

theorem op_alloc {o : Oper} {nm e : Nat} {i : TI} {cs : List A} (hR : Rel C) (hn : C.H.next ≤ nm) (ho : o.op = .alloc e) (hi : tiOf P e = some i) (hz : i.zero.full = some cs) :
    OutR P a o C (.ptr nm 0) (C.H.put nm (.cells true cs)) := by
  obtain ⟨ii, d, h1, h2, _, _, _, _, h6⟩ := tiOf_some hi
  cases hzz : ii.zero with
  | none => rw [hzz] at h6; rw [h6] at hz; cases hz
  | some z =>
    rw [hzz] at h6
    simp only at h6
    rw [h6] at hz
    have hv := full_VRs (ofConst_VR C z) hz
    refine alloc_out (c := z.cells) (e := e) hR hn hv ?_
    simp only [execOp, ho, Instr.alloc, Sem.run_bind, run_zeroValue h1 hzz, Result.andThen_ok, newVar, newRow, run_newObj, Sem.run_pure]
    rfl

theorem op_box {o : Oper} {nm e : Nat} {x : Operand} {cs : List A} (hR : Rel C) (hn : C.H.next ≤ nm) (hρ : ∀ x, VR C (ρ x) (a.eval x)) (ho : o.op = .box e x) (hz : (ρ x).full = some cs) :
    OutR P a o C (.ptr nm 0) (C.H.put nm (.cells true cs)) := by
  have hv := full_VRs (hρ x) hz
  refine alloc_out (c := (a.eval x).cells) (e := e) hR hn hv ?_
  simp only [execOp, ho, Instr.box, Sem.run_bind, newVar, newRow, run_newObj, Sem.run_pure, Result.andThen_ok]
  rfl

/-- The cells at an address. -/
theorem cellsAt_sound {x : A} {v : Value} {sz : Nat} {cs : List A} (hR : Rel C) (hx : VR C x v) (h : cellsAt C.H x sz = some cs) :
    ∃ b o c e fr, v = .pointer (some ⟨b, o, none⟩) ∧ C.w.heap[b]? = some (.cells c e fr) ∧ o + sz ≤ c.size ∧ VRs C cs ((c.toList.drop o).take sz) ∧ cs.length = sz := by
  unfold cellsAt at h
  split at h
  · rename_i n o
    split at h
    · rename_i rw cs' hg
      split at h
      · rename_i hle
        cases h
        cases hx with
        | ptr _ _ b hρ =>
          obtain ⟨b', c, e, fr, h1, h2, h3, h4⟩ := hR.blocks n _ hg
          rw [hρ] at h1
          cases h1
          have hc := h3.1
          simp at hc
          exact ⟨b, o, c, e, fr, rfl, h2, by omega, (h3.drop o).take sz, by simp; omega⟩
      · cases h
    · cases h
  · rename_i cs'
    split at h
    · rename_i hle
      cases h
      cases hx with
      | iaddr _ b o c e fr hb ho hs hc h1 =>
        refine ⟨b, o, c, e, fr, rfl, hb, by omega, ⟨by simp; omega, fun i hi => ?_, fun i hi => ?_⟩, by simp; omega⟩ <;> simp at hi <;> rw [Nat.lt_min] at hi
        · rw [getD_take _ _ _ _ hi.1, getD_take _ _ _ _ hi.1, getD_drop]
          simpa [Array.getD_eq_getD_getElem?, List.getD_eq_getElem?_getD] using hc i hi.2
        · rw [getD_take _ _ _ _ hi.1, getD_drop]
          simpa [Array.getD_eq_getD_getElem?, List.getD_eq_getElem?_getD] using h1 i hi.2
    · cases h
  · rename_i n g i o
    split at h
    · rename_i rw t xs g' hg
      split at h
      · rename_i hgg
        subst hgg
        split at h
        · rename_i hle
          cases h
          cases hx with
          | rptr _ _ _ _ _ hn h1 _ hh =>
            obtain ⟨hi, b, cp, hη, rfl⟩ := hh _ hg rfl
            rcases hR.blocks n _ hg with ⟨h2, h3⟩ | ⟨b', cap, c, e, fr, h2, h3, h4, h5, h6, h7, h8⟩
            · rw [hη] at h2; cases h2
            · rw [hη] at h2
              cases h2
              simp only [szOf, lenOf] at hi ⊢
              have h9 : (i + 1) * t.size ≤ xs.length * t.size := Nat.mul_le_mul_right _ hi
              have h10 := Nat.mul_le_mul_right t.size h6
              rw [Nat.add_mul, Nat.one_mul] at h9
              have hlen := enc_length t (rd xs i)
              refine ⟨b, i * t.size + o, c, e, fr, rfl, h3, by omega, ⟨by simp; omega, fun j hj => ?_, fun j hj => ?_⟩, by simp; omega⟩ <;> simp at hj <;> rw [Nat.lt_min] at hj
              · rw [getD_take _ _ _ _ hj.1, getD_take _ _ _ _ hj.1, getD_drop, getD_drop]
                have := h7 i (o + j) hi (by omega)
                rw [show i * t.size + o + j = i * t.size + (o + j) by omega]
                simpa [Array.getD_eq_getD_getElem?, List.getD_eq_getElem?_getD] using this
              · rw [getD_take _ _ _ _ hj.1, getD_drop]
                have := h8 (i * t.size + o + j) (by omega)
                simpa [Array.getD_eq_getD_getElem?, List.getD_eq_getElem?_getD] using this
        · cases h
      · cases h
    · cases h
  · cases h

theorem one_VR {ag : Bool} {cs : List A} {c : List Value} {v : A} (hc : VRs C cs c) (h : one ag cs = some v) : VR C v (if ag then .agg c.toArray else c.getD 0 undef) := by
  unfold one at h
  split at h
  · rename_i hag
    cases h
    rw [if_pos hag]
    refine .agg _ _ (by simpa using hc.1) (fun i hi => ?_) (fun i hi => ?_)
    · simpa [Array.getD_eq_getD_getElem?, List.getD_eq_getElem?_getD] using hc.2.1 i hi
    · simpa [Array.getD_eq_getD_getElem?, List.getD_eq_getElem?_getD] using hc.2.2 i hi
  · rename_i hag
    rw [if_neg hag]
    split at h
    · cases h
      exact hc.2.1 0 (by simp)
    · cases h

theorem one_len {cs : List A} {v : A} (h : one false cs = some v) : cs.length = 1 := by
  unfold one at h
  simp at h
  split at h
  · rfl
  · cases h

theorem run_loadVar {t : TypeId} {i : TI} {b o : Nat} {c : Array Value} {e : TypeId} {fr : Nat × Nat} {cs : List A} {v : A} {w : World} (hi : tiOf P t = some i) (hb : w.heap[b]? = some (.cells c e fr)) (hn : o + i.size ≤ c.size)
    (h1 : one i.agg cs = some v) (hl : cs.length = i.size) :
    (loadVar t ⟨b, o, none⟩).run P w = .ok (if i.agg then .agg ((c.toList.drop o).take i.size).toArray else ((c.toList.drop o).take i.size).getD 0 undef) w := by
  obtain ⟨ii, d, h2, h3, _, h5, h6, _, _⟩ := tiOf_some hi
  simp only [loadVar, Sem.run_bind, run_isAgg h3, Result.andThen_ok, ← h6]
  cases hag : i.agg with
  | true =>
    simp only [if_true, Sem.run_bind, run_sizeOf h2, Result.andThen_ok, ← h5, run_loadCells_row hb hn, Sem.run_pure]
  | false =>
    rw [hag] at h1
    have := one_len h1
    have hlt : o < c.size := by omega
    have hs1 : i.size = 1 := by omega
    simp only [Bool.false_eq_true, if_false, run_load, cell_row hb, Array.getElem?_eq_getElem hlt, hs1]
    simp [List.getD_eq_getElem?_getD, hlt]

theorem op_load {o : Oper} {t : TypeId} {x : Operand} {i : TI} {cs : List A} {v : A} (hR : Rel C) (hρ : ∀ x, VR C (ρ x) (a.eval x)) (ho : o.op = .load t x) (hi : tiOf P t = some i)
    (hc : cellsAt C.H (ρ x) i.size = some cs) (hv : one i.agg cs = some v) : OutR P a o C v C.H := by
  obtain ⟨b, of, c, e, fr, h1, h2, h3, h4, h5⟩ := cellsAt_sound hR (hρ x) hc
  refine OutR.same hR ?_ (one_VR h4 hv)
  simp only [execOp, ho, Instr.loadAt, h1, Instr.sureAddr, Sem.run_bind, Sem.run_pure, Result.andThen_ok, run_loadVar hi h2 h3 hv h5]

theorem splice_length (cs : List A) (o : Nat) (vs : List A) (h : o + vs.length ≤ cs.length) : (splice cs o vs).length = cs.length := by
  simp [splice]; omega
theorem splice_getD (cs : List A) (o : Nat) (vs : List A) (h : o + vs.length ≤ cs.length) (i : Nat) :
    (splice cs o vs).getD i .bot = if o ≤ i ∧ i < o + vs.length then vs.getD (i - o) .bot else cs.getD i .bot := by
  unfold splice
  by_cases h1 : i < o
  · rw [List.append_assoc, getD_append_left _ _ _ _ (by simp; omega), getD_take _ _ _ _ h1, if_neg (by omega)]
  · by_cases h2 : i < o + vs.length
    · rw [if_pos ⟨by omega, h2⟩, getD_append_left _ _ _ _ (by simp; omega), getD_append_right _ _ _ _ (by simp; omega)]
      simp [show min o cs.length = o by omega]
    · rw [if_neg (by omega), getD_append_right _ _ _ _ (by simp; omega), getD_drop]
      congr 1
      simp; omega

theorem toList_getD (c : Array Value) (i : Nat) : c.toList.getD i undef = c.getD i undef := by
  simp [Array.getD_eq_getD_getElem?, List.getD_eq_getElem?_getD]

theorem VRs.splice {cs vs : List A} {c : Array Value} {d : List Value} {o : Nat} (h : VRs C cs c.toList) (k : VRs C vs d) (hle : o + vs.length ≤ cs.length) :
    VRs C (splice cs o vs) (spliceV c o d).toList := by
  have hc := h.1
  have hd := k.1
  simp only [Array.length_toList] at hc
  refine ⟨by simp [spliceV_size, splice_length _ _ _ hle, hc], fun i hi => ?_, fun i hi => ?_⟩ <;> rw [splice_length _ _ _ hle] at hi
  · rw [splice_getD _ _ _ hle, toList_getD, spliceV_getD _ _ _ (by omega), hd]
    by_cases hr : o ≤ i ∧ i < o + vs.length
    · rw [if_pos hr, if_pos hr]; exact k.2.1 _ (by omega)
    · rw [if_neg hr, if_neg hr, ← toList_getD]; exact h.2.1 _ hi
  · rw [toList_getD, spliceV_getD _ _ _ (by omega), hd]
    by_cases hr : o ≤ i ∧ i < o + vs.length
    · rw [if_pos hr]; exact k.2.2 _ (by omega)
    · rw [if_neg hr, ← toList_getD]; exact h.2.2 _ hi

theorem run_storeAt {t : TypeId} {i : TI} {b o : Nat} {c : Array Value} {e : TypeId} {fr : Nat × Nat} {v : Value} {w : World} {vs : List A} (hi : tiOf P t = some i) (hb : w.heap[b]? = some (.cells c e fr)) (hf : bare fr c.size)
    (hv : VRs C vs v.cells.toList) (hl : vs.length = i.size) (hn : o + i.size ≤ c.size) :
    (Instr.storeAt t (.pointer (some ⟨b, o, none⟩)) v).run P w = .ok () (putRow w b (spliceV c o v.cells.toList) e fr) := by
  obtain ⟨ii, d, h2, h3, _, h5, h6, _, _⟩ := tiOf_some hi
  have hs := hv.cells_size
  simp only [Instr.storeAt, Instr.sureAddr, storeVar, Sem.run_bind, Sem.run_pure, Result.andThen_ok, run_sizeOf h2]
  rw [if_neg (by omega)]
  have := run_storeCells_row (P := P) v.cells.toList w o 0 c hb hf (by simp; omega) (fun x hx => by
    obtain ⟨j, hj, rfl⟩ := List.getElem_of_mem hx
    have hj' : j < vs.length := by simp at hj; omega
    have := hv.2.2 j hj'
    have hj2 : j < v.cells.size := by simpa using hj
    simpa [List.getD_eq_getElem?_getD, hj2] using this)
  simpa using this

theorem op_store_ptr {o : Oper} {t : TypeId} {x y : Operand} {i : TI} {vs : List A} {n of : Nat} {cs : List A} (hR : Rel C) (hρ : ∀ x, VR C (ρ x) (a.eval x)) (ho : o.op = .store t x y) (hi : tiOf P t = some i)
    (hy : (ρ y).full = some vs) (hl : vs.length = i.size) (hx : ρ x = .ptr n of) (hg : C.H.get n = some (.cells true cs)) (hle : of + vs.length ≤ cs.length) :
    OutR P a o C .bot (C.H.set n (.cells true (splice cs of vs))) := by
  have hv := full_VRs (hρ y) hy
  have hp := hρ x
  rw [hx] at hp
  generalize hax : a.eval x = ax at hp
  cases hp with
  | ptr _ _ b hb =>
    obtain ⟨b', c, e, fr, h1, h2, h3, h4⟩ := hR.blocks n _ hg
    rw [hb] at h1
    cases h1
    have hc := h3.1
    simp only [Array.length_toList] at hc
    let C' : Cx := { C with w := putRow C.w b (spliceV c of (a.eval y).cells.toList) e fr, H := C.H.set n (.cells true (splice cs of vs)) }
    have hU : Upd C C' n (.cells true cs) (.cells true (splice cs of vs)) := {
      get := hg, rw := rfl, H := rfl, ρ := rfl, η := fun _ _ => rfl
      size := by show C.w.heap.size ≤ (putRow C.w b _ e fr).heap.size; simp [putRow]
      frame := fun k hk hne => by
        show (putRow C.w b _ e fr).heap[k]? = _
        rw [putRow_get (heap_lt h2), if_neg (fun h => hne (by simp only [blockOf]; rw [hb, h]))]
      own := fun k hk => .inl hk
      gen := fun g hg => by cases hg
      hid := rfl, free := fun k hk => (hR.hid k hk).2 _ _ hg
      os := rfl, tape := rfl, output := rfl }
    refine ⟨C', .skip, undef, rfl, ?_, .inr ⟨rfl, rfl⟩, .bot _, hU.rel hR ?_, hU.step⟩
    · have hrun := run_storeAt (o := of) hi h2 h4 hv hl (by omega)
      simp only [execOp, ho, Sem.run_bind, hax, hrun, Result.andThen_ok, Sem.run_pure]
      rfl
    · refine ⟨b, spliceV c of (a.eval y).cells.toList, e, fr, hb, ?_, ((h3.splice hv hle).keep hU.step), by rw [spliceV_size]; exact h4⟩
      show (putRow C.w b _ e fr).heap[b]? = _
      rw [putRow_get (heap_lt h2), if_pos rfl]

theorem rd_set {t : Ty} (xs : List t.den) (i k : Nat) (x : t.den) (hi : i < xs.length) : rd (xs.set i x) k = if i = k then x else rd xs k := by
  unfold rd
  simp only [List.getD_eq_getElem?_getD, List.getElem?_set]
  by_cases h : i = k
  · subst h; simp [hi]
  · simp [h]

theorem mul_lt_row {i sz n j : Nat} (h : i < n) (hj : j < sz) : i * sz + j < n * sz := by
  have : (i + 1) * sz ≤ n * sz := Nat.mul_le_mul_right _ h
  rw [Nat.add_mul, Nat.one_mul] at this
  omega

theorem row_apart {i k sz j o l : Nat} (hne : i ≠ k) (hj : j < sz) (ho : o + l ≤ sz) : ¬ (i * sz + o ≤ k * sz + j ∧ k * sz + j < i * sz + o + l) := by
  rintro ⟨h1, h2⟩
  rcases Nat.lt_or_gt_of_ne hne with h | h
  · have : (i + 1) * sz ≤ k * sz := Nat.mul_le_mul_right _ h
    rw [Nat.add_mul, Nat.one_mul] at this
    omega
  · have : (k + 1) * sz ≤ i * sz := Nat.mul_le_mul_right _ h
    rw [Nat.add_mul, Nat.one_mul] at this
    omega

theorem op_store_rptr {o : Oper} {ty : TypeId} {x y : Operand} {ti : TI} {vs : List A} {n g i of : Nat} {t : Ty} {xs : List t.den} {z : t.den} {H1 : Heap} {rw1 : Bool} {t1 : Ty} {xs1 : List t1.den} {g1 : Nat} (hR : Rel C) (hρ : ∀ x, VR C (ρ x) (a.eval x)) (ho : o.op = .store ty x y) (hi : tiOf P ty = some ti)
    (hy : (ρ y).full = some vs) (hl : vs.length = ti.size) (hx : ρ x = .rptr n g i of) (hg : C.H.get n = some (.row true t xs g)) (hle : of + vs.length ≤ t.size)
    (hd : decH t C.H (splice (enc t (rd xs i)) of vs) = some (z, [], H1)) (hg1 : H1.get n = some (.row rw1 t1 xs1 g1)) (hrw1 : rw1 = true) :
    OutR P a o C .bot (H1.set n (.row true t (xs.set i z) g)) := by
  subst hrw1
  have hv := full_VRs (hρ y) hy
  have hp := hρ x
  rw [hx] at hp
  generalize hax : a.eval x = ax at hp
  cases hp with
  | rptr _ _ _ _ _ hn h1 _ hh =>
    obtain ⟨hlt, b, cp, hη, rfl⟩ := hh _ hg rfl
    simp only [lenOf, szOf] at hlt hax
    rcases hR.blocks n _ hg with ⟨h2, _⟩ | ⟨b', cap, c, e, fr, h2, h3, h4, h5, h6, h7, h8⟩
    · rw [hη] at h2; cases h2
    · rw [hη] at h2
      cases h2
      have hcap := Nat.mul_le_mul_right t.size h6
      have hrow : (i + 1) * t.size ≤ xs.length * t.size := Nat.mul_le_mul_right _ hlt
      rw [Nat.add_mul, Nat.one_mul] at hrow
      have hlen := enc_length t (rd xs i)
      have hold : VRs C (enc t (rd xs i)) ((c.toList.drop (i * t.size)).take t.size) := by
        refine ⟨by simp; omega, fun j hj => ?_, fun j hj => ?_⟩
        · rw [getD_take _ _ _ _ (by omega), getD_drop, toList_getD]; exact h7 i j hlt (by omega)
        · rw [getD_take _ _ _ _ (by omega), getD_drop, toList_getD]; exact h8 _ (by omega)
      have hnew : VRs C (splice (enc t (rd xs i)) of vs) (spliceV ((c.toList.drop (i * t.size)).take t.size).toArray of (a.eval y).cells.toList).toList :=
        VRs.splice (by simpa using hold) hv (by omega)
      obtain ⟨hF, hz, _, _⟩ := decH_sound t hR hnew hd
      have hR1 := hF.rel hR
      have hg2 : C.H.get n = some (.row true t1 xs1 g1) := hF.rw (C1 := C.at H1) hg1 rfl
      rw [hg] at hg2
      cases hg2
      let C' : Cx := { C with w := putRow C.w b (spliceV c (i * t.size + of) (a.eval y).cells.toList) e fr, H := H1.set n (.row true t (xs.set i z) g) }
      have hvl := hv.cells_size
      have hU : Upd (C.at H1) C' n (.row true t xs g) (.row true t (xs.set i z) g) := {
        get := hg1, rw := rfl, H := rfl, ρ := rfl, η := fun _ _ => rfl
        size := by show C.w.heap.size ≤ (putRow C.w b _ e fr).heap.size; simp [putRow]
        frame := fun k hk hne => by
          show (putRow C.w b _ e fr).heap[k]? = _
          rw [putRow_get (heap_lt h3), if_neg (fun h => hne (by simp only [blockOf, Cx.at]; rw [hη]; simp [h]))]
          rfl
        own := fun k hk => .inl hk
        gen := fun g' hg' => ⟨g', hg', Nat.le_refl _, fun _ => ⟨by simp [lenOf], rfl, rfl⟩⟩
        hid := rfl, free := fun k hk => (hR1.hid k hk).2 _ _ hg1
        os := rfl, tape := rfl, output := rfl }
      have hst := hF.step.trans hU.step
      refine ⟨C', .skip, undef, rfl, ?_, .inr ⟨rfl, rfl⟩, .bot _, hU.rel hR1 ?_, hst⟩
      · have hrun := run_storeAt (o := i * t.size + of) hi h3 h4 hv hl (by omega)
        simp only [execOp, ho, Sem.run_bind, hax, hrun, Result.andThen_ok, Sem.run_pure]
        rfl
      · refine .inr ⟨b, cp, spliceV c (i * t.size + of) (a.eval y).cells.toList, e, fr, hη, ?_, by rw [spliceV_size]; exact h4, by rw [spliceV_size]; exact h5, by simpa using h6, fun k j hk hj => ?_, fun k hk => ?_⟩
        · show (putRow C.w b _ e fr).heap[b]? = _
          rw [putRow_get (heap_lt h3), if_pos rfl]
        · simp only [List.length_set] at hk
          rw [rd_set _ _ _ _ hlt]
          have hvl' : (a.eval y).cells.toList.length = vs.length := by simpa using hvl
          by_cases hik : i = k
          · subst hik
            rw [if_pos rfl]
            have := (hz.2.1 j (by rw [enc_length]; exact hj)).keep hU.step.toStepV
            rw [getD_take _ _ _ _ hj, toList_getD, spliceV_getD _ _ _ (by simp; omega)] at this
            rw [spliceV_getD _ _ _ (by simp; omega)]
            by_cases hr : of ≤ j ∧ j < of + vs.length
            · rw [if_pos (by omega)] at this
              rw [if_pos (by omega), show i * t.size + j - (i * t.size + of) = j - of by omega]
              exact this
            · rw [if_neg (by omega)] at this
              rw [if_neg (by omega)]
              have e1 : ((c.toList.drop (i * t.size)).take t.size).toArray.getD j undef = c.getD (i * t.size + j) undef := by
                rw [← toList_getD, ← toList_getD]
                show ((c.toList.drop (i * t.size)).take t.size).getD j undef = _
                rw [getD_take _ _ _ _ hj, getD_drop]
              rw [e1] at this
              exact this
          · rw [if_neg hik, spliceV_getD _ _ _ (by simp; omega), if_neg (by rw [hvl']; exact row_apart hik hj hle)]
            exact (h7 k j hk hj).keep hst
        · rw [spliceV_size] at hk
          rw [spliceV_getD _ _ _ (by simp; omega)]
          by_cases hr : i * t.size + of ≤ k ∧ k < i * t.size + of + (a.eval y).cells.toList.length
          · rw [if_pos hr]
            exact hv.2.2 _ (by simp at hr; omega)
          · rw [if_neg hr]
            exact h8 k hk

end Go.VI
