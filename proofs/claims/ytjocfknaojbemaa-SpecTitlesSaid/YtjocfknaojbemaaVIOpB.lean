/-
  Each operation does what the interpreter says: part B (values built, numbers, texts, addresses).
-/
import Derived.Test.YtjocfknaojbemaaVIOpA
namespace Go.VI

variable {P : Program} {E : Env} {C : Cx} {a : Act} {ρ : Operand → A}

theorem foldl_splice (off : Nat) : ∀ (l : List Value) (k : Nat) (cells : Array Value),
    (l.zipIdx k).foldl (fun (cs : Array Value) (p : Value × Nat) => cs.setIfInBounds (off + p.2) p.1) cells = spliceV cells (off + k) l
  | [], _, _ => rfl
  | v :: r, k, cells => by
    simp only [List.zipIdx_cons, List.foldl_cons, spliceV]
    rw [foldl_splice off r (k + 1)]
    rfl

theorem fill_sound {place place' : Nat → Option (Nat × Nat)} (hp : ∀ i x, place i = some x → place' i = some x) (hρ : ∀ x, VR C (ρ x) (a.eval x)) : ∀ (parts : List (Nat × Operand)) (cs cs' : List A) (c : Array Value), VRs C cs c.toList →
    fillK place cs (parts.map fun p => (p.1, ρ p.2)) = some cs' → ∃ c', Instr.fill place' c (parts.map fun p => (p.1, a.eval p.2)) = some c' ∧ VRs C cs' c'.toList
  | [], cs, cs', c, hc, h => by
    simp only [List.map_nil, fillK, Option.some.injEq] at h
    subst h
    exact ⟨c, rfl, hc⟩
  | (i, x) :: r, cs, cs', c, hc, h => by
    simp only [List.map_cons, fillK] at h
    split at h
    · rename_i off size vs h1 h2
      split at h
      · rename_i hh
        obtain ⟨h3, h4⟩ := hh
        have hv := full_VRs (hρ x) h2
        have hs := hv.cells_size
        have hcl := hc.1
        simp only [Array.length_toList] at hcl
        obtain ⟨c', h5, h6⟩ := fill_sound hp hρ r _ cs' _ (hc.splice hv (by omega)) h
        refine ⟨c', ?_, h6⟩
        simp only [List.map_cons, Instr.fill, hp _ _ h1]
        rw [if_neg (by simp; omega)]
        have := foldl_splice off (a.eval x).cells.toList 0 c
        simp only [Nat.add_zero] at this
        rw [← Array.foldl_toList, Array.toList_zipIdx]
        rw [← this] at h5
        exact h5
      · cases h
    · cases h

theorem mapM_places {P : Program} {fs : List Field} (h : fs.all (fun f => (P.info? f.type).isSome && (P.underlying f.type).isSome) = true) (w : World) :
    ∀ acc : Array (Nat × Nat), (List.foldlM (m := Sem) (fun (bs : Array (Nat × Nat)) (f : Field) => (do pure (f.offset, ← sizeOf f.type) : Sem (Nat × Nat)) >>= fun b => pure (bs.push b)) acc fs).run P w = .ok (acc ++ (fs.map fun f => (f.offset, P.cellsOf f.type)).toArray) w := by
  induction fs with
  | nil => intro acc; simp
  | cons f r ih =>
    intro acc
    simp only [List.all_cons, Bool.and_eq_true] at h
    obtain ⟨⟨h1, _⟩, h3⟩ := h
    obtain ⟨ii, hii⟩ := Option.isSome_iff_exists.1 h1
    simp only [List.foldlM_cons, Sem.run_bind, run_sizeOf hii, Result.andThen_ok, Sem.run_pure, ih h3]
    simp [Program.cellsOf, hii]

theorem run_mapM_places {P : Program} {fs : Array Field} (h : fs.toList.all (fun f => (P.info? f.type).isSome && (P.underlying f.type).isSome) = true) (w : World) :
    (fs.mapM fun f => (do pure (f.offset, ← sizeOf f.type) : Sem (Nat × Nat))).run P w = .ok (fs.toList.map fun f => (f.offset, P.cellsOf f.type)).toArray w := by
  rw [Array.mapM_eq_foldlM, ← Array.foldlM_toList]
  have := mapM_places h w #[]
  simpa using this

theorem kindOf_struct {d : TypeDesc} {l : List (Nat × Nat × Bool)} (h : TK.struct l = kindOf P d) : ∃ fs, d = .struct fs ∧ fs.toList.all (fun f => (P.info? f.type).isSome && (P.underlying f.type).isSome) = true ∧ l = fs.toList.map fun f => (f.offset, P.cellsOf f.type, isAggB P f.type) := by
  cases d <;> simp only [kindOf] at h <;> first | cases h | skip
  rename_i fs
  split at h
  · rename_i hh
    cases h
    exact ⟨fs, rfl, hh, rfl⟩
  · cases h
theorem kindOf_arr {d : TypeDesc} {n e : Nat} (h : TK.arr n e = kindOf P d) : d = .array n e := by
  cases d <;> simp only [kindOf] at h <;> first | (split at h <;> cases h; done) | (cases h; done) | (cases h; rfl)
theorem kindOf_slice {d : TypeDesc} {e : Nat} (h : TK.slice e = kindOf P d) : d = .slice e := by
  cases d <;> simp only [kindOf] at h <;> first | (split at h <;> cases h; done) | (cases h; done) | (cases h; rfl)
theorem kindOf_int {d : TypeDesc} {k : IntKind} (h : TK.int k = kindOf P d) : d = .int k := by
  cases d <;> simp only [kindOf] at h <;> first | (split at h <;> cases h; done) | (cases h; done) | (cases h; rfl)
theorem kindOf_str {d : TypeDesc} (h : TK.str = kindOf P d) : d = .string := by
  cases d <;> simp only [kindOf] at h <;> first | (split at h <;> cases h; done) | (cases h; done) | rfl
theorem kindOf_map {d : TypeDesc} {k v : Nat} (h : TK.map k v = kindOf P d) : d = .map k v := by
  cases d <;> simp only [kindOf] at h <;> first | (split at h <;> cases h; done) | (cases h; done) | (cases h; rfl)

theorem zero_VRs {t : TypeId} {i : TI} {cs : List A} (hi : tiOf P t = some i) (hz : i.zero.full = some cs) : ∃ z, (∀ w, (zeroValue t).run P w = .ok z w) ∧ ∀ C, VRs C cs z.cells.toList := by
  obtain ⟨ii, d, h1, h2, _, _, _, _, h6⟩ := tiOf_some hi
  cases hzz : ii.zero with
  | none => rw [hzz] at h6; rw [h6] at hz; cases hz
  | some z =>
    rw [hzz] at h6
    simp only at h6
    rw [h6] at hz
    exact ⟨z, fun w => run_zeroValue h1 hzz w, fun C => full_VRs (ofConst_VR C z) hz⟩

theorem op_build_struct {o : Oper} {t : TypeId} {parts : Array (Nat × Operand)} {i : TI} {fs : List (Nat × Nat × Bool)} {z cs : List A} (hR : Rel C) (hρ : ∀ x, VR C (ρ x) (a.eval x)) (ho : o.op = .build t parts) (hi : tiOf P t = some i)
    (hk : i.kind = .struct fs) (hz : i.zero.full = some z) (hf : fillK (fun i => (fs[i]?).map fun f => (f.1, f.2.1)) z (parts.toList.map fun p => (p.1, ρ p.2)) = some cs) : OutR P a o C (.agg cs) C.H := by
  obtain ⟨zv, h1, h2⟩ := zero_VRs hi hz
  obtain ⟨ii, d, h3, h4, h5, _, _, _, _⟩ := tiOf_some hi
  rw [hk] at h5
  obtain ⟨fa, rfl, h6, rfl⟩ := kindOf_struct h5
  obtain ⟨c', h7, h8⟩ := fill_sound (place' := fun i => ((fa.toList.map fun f => (f.offset, P.cellsOf f.type)).toArray[i]?)) (fun i x hx => by
    simp only [List.getElem?_map, List.getElem?_toArray, Option.map_map] at hx ⊢
    exact hx) hρ parts.toList z cs zv.cells (h2 C) hf
  refine OutR.same (cv := .agg c') hR ?_ (.agg _ _ (by simpa using h8.1) (fun i hi => ?_) (fun i hi => ?_))
  · simp only [execOp, ho, Instr.build, Sem.run_bind, h1, Result.andThen_ok, run_underlying h4, run_mapM_places h6, Array.toList_map]
    rw [h7]
    rfl
  · rw [← toList_getD]; exact h8.2.1 i hi
  · rw [← toList_getD]; exact h8.2.2 i hi

theorem op_build_arr {o : Oper} {t e n : Nat} {parts : Array (Nat × Operand)} {i ie : TI} {z cs : List A} (hR : Rel C) (hρ : ∀ x, VR C (ρ x) (a.eval x)) (ho : o.op = .build t parts) (hi : tiOf P t = some i)
    (hk : i.kind = .arr n e) (hie : tiOf P e = some ie) (hz : i.zero.full = some z) (hf : fillK (fun j => some (j * ie.size, ie.size)) z (parts.toList.map fun p => (p.1, ρ p.2)) = some cs) : OutR P a o C (.agg cs) C.H := by
  obtain ⟨zv, h1, h2⟩ := zero_VRs hi hz
  obtain ⟨ii, d, h3, h4, h5, _, _, _, _⟩ := tiOf_some hi
  obtain ⟨ij, d2, k3, k4, k5, k6, _, _, _⟩ := tiOf_some hie
  rw [hk] at h5
  have := kindOf_arr h5
  subst this
  obtain ⟨c', h7, h8⟩ := fill_sound (place' := fun j => some (j * ij.size, ij.size)) (fun i x hx => by rw [← k6]; exact hx) hρ parts.toList z cs zv.cells (h2 C) hf
  refine OutR.same (cv := .agg c') hR ?_ (.agg _ _ (by simpa using h8.1) (fun i hi => ?_) (fun i hi => ?_))
  · simp only [execOp, ho, Instr.build, Sem.run_bind, h1, Result.andThen_ok, run_underlying h4, run_sizeOf k3, Array.toList_map]
    rw [h7]
    rfl
  · rw [← toList_getD]; exact h8.2.1 i hi
  · rw [← toList_getD]; exact h8.2.2 i hi

theorem zeros_length (z : List A) (n : Nat) : (zeros z n).length = n * z.length := by
  induction n with
  | zero => simp [zeros]
  | succ n ih => simp [zeros, ih, Nat.add_mul]; omega
theorem zeros_getD (z : List A) : ∀ (n k : Nat), k < n * z.length → (zeros z n).getD k .bot = z.getD (k % z.length) .bot
  | 0, k, h => by simp at h
  | n + 1, k, h => by
    simp only [zeros]
    by_cases hk : k < z.length
    · rw [getD_append_left _ _ _ _ hk, Nat.mod_eq_of_lt hk]
    · rw [Nat.add_mul, Nat.one_mul] at h
      rw [getD_append_right _ _ _ _ (by omega), zeros_getD z n _ (by omega), ← Nat.mod_eq_sub_mod (by omega)]

theorem zeros_VRs {z : List A} {c : Array Value} {n sz : Nat} (hz : VRs C z c.toList) (hs : z.length = sz) (h0 : 0 < sz) :
    VRs C (zeros z n) ((Array.range (n * sz)).map (c[· % c.size]!)).toList := by
  have hc := hz.1
  simp only [Array.length_toList] at hc
  have key : ∀ i, i < n * sz → ((Array.range (n * sz)).map (c[· % c.size]!)).toList.getD i undef = c.toList.getD (i % z.length) undef := fun i hi => by
    have hlt : i % z.length < c.size := by rw [hc]; exact Nat.mod_lt _ (by omega)
    rw [toList_getD, toList_getD]
    simp [Array.getD_eq_getD_getElem?, hi, hc]
    have : i % z.length < c.size := hlt
    simp [this]
  refine ⟨by simp [zeros_length, hs], fun i hi => ?_, fun i hi => ?_⟩ <;> rw [zeros_length, hs] at hi
  · rw [key i hi, zeros_getD _ _ _ (by rw [hs]; exact hi)]
    exact hz.2.1 _ (Nat.mod_lt _ (by omega))
  · rw [key i hi]
    exact hz.2.2 _ (Nat.mod_lt _ (by omega))

theorem decRows_sound (t : Ty) : ∀ (n : Nat) {C : Cx} {l : List A} {c : List Value} {xs : List t.den} {H1 : Heap}, Rel C → VRs C l c → decRows t n C.H l = some (xs, H1) →
    Frz C (C.at H1) ∧ xs.length = n ∧ l.length = n * t.size ∧ ∀ i j, i < n → j < t.size → VR (C.at H1) ((enc t (rd xs i)).getD j .bot) (c.getD (i * t.size + j) undef)
  | 0, C, l, c, xs, H1, hR, hl, h => by
    cases l with
    | nil =>
      simp only [decRows, Option.some.injEq, Prod.mk.injEq] at h
      obtain ⟨rfl, rfl⟩ := h
      exact ⟨Frz.refl C, rfl, by simp, fun i j hi => absurd hi (by omega)⟩
    | cons x r => simp [decRows] at h
  | n + 1, C, l, c, xs, H1, hR, hl, h => by
    simp only [decRows] at h
    split at h
    · rename_i x r H2 hd
      obtain ⟨f1, v1, e1, s1⟩ := decH_sound t hR hl hd
      split at h
      · rename_i ys H3 hr
        simp only [Option.some.injEq, Prod.mk.injEq] at h
        obtain ⟨rfl, rfl⟩ := h
        subst e1
        obtain ⟨f2, l2, l3, v2⟩ := decRows_sound t n (C := C.at H2) (f1.rel hR) ((hl.keep f1.step).drop t.size) hr
        refine ⟨f1.trans f2, by simp [l2], ?_, fun i j hi hj => ?_⟩
        · rw [List.length_drop] at l3; rw [Nat.add_mul, Nat.one_mul]; omega
        · cases i with
          | zero =>
            have := (v1.2.1 j (by rw [enc_length]; exact hj)).keep f2.step.toStepV
            rw [getD_take _ _ _ _ hj] at this
            simpa [rd, Cx.at] using this
          | succ i =>
            have := v2 i j (by omega) hj
            rw [getD_drop] at this
            rw [show (i + 1) * t.size + j = t.size + (i * t.size + j) by rw [Nat.add_mul, Nat.one_mul]; omega]
            simpa [rd, Cx.at] using this
      · cases h
    · cases h

/-- A new row. -/
theorem row_out {o : Oper} {nm : Nat} {t : Ty} {xs : List t.den} {cap : Nat} {c : Array Value} {e : TypeId} {nd : Nat} {fr : Nat × Nat} {H1 : Heap} (hF : Frz C (C.at H1)) (hR : Rel C) (hn : C.H.next ≤ nm)
    (hc : cap * t.size ≤ c.size) (hl : xs.length ≤ cap) (hv : ∀ i j, i < xs.length → j < t.size → VR (C.at H1) ((enc t (rd xs i)).getD j .bot) (c.getD (i * t.size + j) undef))
    (h1 : ∀ i, i < c.size → oneC (c.getD i undef)) (hfr : bare fr c.size)
    (hr : (execOp a.eval o).run P C.w = .ok (.value (.slice (some ⟨C.w.heap.size, 0, none⟩) xs.length cap)) { C.w with heap := C.w.heap.push (.cells c e fr), drawn := nd }) :
    OutR P a o C (.hsl nm 0 none) (H1.put nm (.row true t xs 0)) := by
  have he : ∀ b cp, (some (C.w.heap.size, cap) : Option (Nat × Nat)) = some (b, cp) → b = C.w.heap.size := fun _ _ h => by cases h; rfl
  let D : Cx := { C.at H1 with w := { C.w with drawn := nd } }
  have hD : Step (C.at H1) D := ⟨⟨Nat.le_refl _, fun _ _ h => h, fun _ b g _ h hg => ⟨b, g, h, hg, Nat.le_refl _, fun _ => ⟨rfl, rfl, rfl⟩⟩, Nat.le_refl _, fun _ _ _ => rfl, fun b hb => by
    rcases hb with hb | ⟨n, x, h1, h2, h3⟩
    · exact .inl (.inl hb)
    refine .inl (.inr ⟨n, x, h1, h2, ?_⟩)
    rw [← h3]; cases x <;> rfl⟩, fun _ h => h, fun _ _ h => ⟨h, rfl⟩, fun _ _ _ => rfl, rfl, rfl, rfl⟩
  have hRD : Rel D := ⟨(hF.rel hR).names, fun n x hx => ((hF.rel hR).blocks n x hx).keep hD rfl fun _ _ _ h => h, fun n m x y b hx hy hr h1 h2 => (hF.rel hR).dist n m x y b hx hy hr (by rw [← h1]; cases x <;> rfl) (by rw [← h2]; cases y <;> rfl), fun b hb => ⟨((hF.rel hR).hid b hb).1, fun n x hx hbo => ((hF.rel hR).hid b hb).2 n x hx (by rw [← hbo]; cases x <;> rfl)⟩⟩
  have hn' : D.H.next ≤ nm := by show H1.next ≤ nm; rw [show H1.next = C.H.next from hF.next]; exact hn
  have hs := Cx.new_step hRD hn' (.row true t xs 0) (.cells c e fr) (some (C.w.heap.size, cap)) he
  have hst := (hF.step.trans hD).trans hs
  refine ⟨D.new nm (.row true t xs 0) (.cells c e fr) (some (C.w.heap.size, cap)), _, _, rfl, hr, .inl rfl, ?_, Cx.new_rel hRD hn' he ?_, hst⟩
  · have hget : (H1.put nm (.row true t xs 0)).get nm = some (.row true t xs 0) := by rw [get_put, if_pos rfl]
    refine .hsl _ _ _ _ _ _ ?_ hl (fun blk g' hb hg => Nat.zero_le _) (fun blk hb hg => ?_)
    · show nm < (H1.put nm _).next
      rw [next_put H1 _ _ hn']; omega
    · have hb' : (H1.put nm (.row true t xs 0)).get nm = some blk := hb
      rw [hget] at hb'
      cases hb'
      refine ⟨rfl, ?_⟩
      simp [Cx.new]
  · refine .inr ⟨C.w.heap.size, cap, c, e, fr, by simp [Cx.new], heap_alloc_new _ _, hfr, hc, hl, fun i j hi hj => ((hv i j hi hj).keep hD).keep hs.toStepV, h1⟩

theorem op_buildSlice {o : Oper} {t e len nm : Nat} {parts : Array (Nat × Operand)} {i ie : TI} {z cs : List A} {ty : Ty} {xs : List ty.den} {H1 : Heap} (hR : Rel C) (hn : C.H.next ≤ nm) (hρ : ∀ x, VR C (ρ x) (a.eval x)) (ho : o.op = .buildSlice t len parts) (hi : tiOf P t = some i)
    (hk : i.kind = .slice e) (hie : tiOf P e = some ie) (hz : ie.zero.full = some z) (hzl : z.length = ie.size) (hb : len * ie.size ≤ 16777216) (h0 : 0 < ie.size)
    (hf : fillK (fun j => some (j * ie.size, ie.size)) (zeros z len) (parts.toList.map fun p => (p.1, ρ p.2)) = some cs) (hd : decRows ty len C.H cs = some (xs, H1)) :
    OutR P a o C (.hsl nm 0 none) (H1.put nm (.row true ty xs 0)) := by
  obtain ⟨zv, h1, h2⟩ := zero_VRs hie hz
  obtain ⟨ii, d, h3, h4, h5, _, _, _, _⟩ := tiOf_some hi
  obtain ⟨ij, d2, k3, k4, k5, k6, _, _, _⟩ := tiOf_some hie
  rw [hk] at h5
  have := kindOf_slice h5
  subst this
  have hzz : VRs C (zeros z len) ((Array.range (len * ie.size)).map (zv.cells[· % zv.cells.size]!)).toList := zeros_VRs (h2 C) hzl h0
  obtain ⟨c', h7, h8⟩ := fill_sound (place' := fun j => some (j * ij.size, ij.size)) (fun i x hx => by rw [← k6]; exact hx) hρ parts.toList _ cs _ hzz hf
  obtain ⟨hF, hl, hl2, hv⟩ := decRows_sound ty len hR h8 hd
  have hcs : c'.size = len * ty.size := by have := h8.1; simp only [Array.length_toList] at this; rw [this, hl2]
  refine row_out (c := c') (e := e) (nd := C.w.drawn) (fr := (0, 0)) (cap := len) hF hR hn (by omega) (by omega) (fun i j hi hj => by rw [← toList_getD]; exact hv i j (by omega) hj) (fun i hi => by rw [← toList_getD]; exact h8.2.2 i (by rw [hl2, ← hcs]; exact hi)) (fun i _ h => by simp at h) ?_
  rw [k6] at h7
  simp only [execOp, ho, Instr.buildSlice, Sem.run_bind, run_underlying h4, Result.andThen_ok, run_sizeOf k3]
  rw [Sem.run_ite, if_neg (by rw [← k6]; omega), Sem.run_ite]
  by_cases hz0 : len * ij.size = 0
  · rw [if_pos hz0]
    have h10 : ∀ f : Nat → Value, (Array.range 0).map f = #[] := fun f => Array.ext (by simp) (fun i h _ => absurd h (by simp))
    have h9 : Instr.fill (fun j => some (j * ij.size, ij.size)) #[] (parts.toList.map fun p => (p.1, a.eval p.2)) = some c' := by
      rw [hz0, h10] at h7
      exact h7
    simp only [Sem.run_bind, Sem.run_pure, Result.andThen_ok, hz0, h10, Array.toList_map, h9, newRow, run_newObj, hl]
  · rw [if_neg hz0]
    simp only [Sem.run_bind, h1, Sem.run_pure, Result.andThen_ok, Array.toList_map, h7, newRow, run_newObj, hl]

end Go.VI
