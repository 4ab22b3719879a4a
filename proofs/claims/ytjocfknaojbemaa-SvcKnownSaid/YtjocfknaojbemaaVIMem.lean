/-
  Loads, stores, new blocks: what the model does, in the words of Rel.
-/
import Derived.Test.YtjocfknaojbemaaVIDec
import Derived.Laws.Cells
import Derived.Laws.Rows
namespace Go.VI

theorem tiOf_some {P : Program} {t : TypeId} {i : TI} (h : tiOf P t = some i) : ∃ ii d, P.info? t = some ii ∧ P.underlying t = some d ∧ i.kind = kindOf P d ∧ i.size = ii.size ∧ i.agg = isAggB P t ∧ i.bytes = ii.bytes ∧
    i.zero = (match ii.zero with | some z => ofConst z | none => .bot) := by
  unfold tiOf at h
  split at h
  · rename_i ii d h1 h2
    cases h
    exact ⟨ii, d, h1, h2, rfl, rfl, rfl, rfl, rfl⟩
  · cases h

theorem run_typeInfo {P : Program} {t : TypeId} {ii : TypeInfo} (h : P.info? t = some ii) (w : World) : (typeInfo t).run P w = .ok ii w := by
  simp [typeInfo, h]
theorem run_sizeOf {P : Program} {t : TypeId} {ii : TypeInfo} (h : P.info? t = some ii) (w : World) : (sizeOf t).run P w = .ok ii.size w := by
  simp [sizeOf, run_typeInfo h]
theorem run_underlying {P : Program} {t : TypeId} {d : TypeDesc} (h : P.underlying t = some d) (w : World) : (underlying t).run P w = .ok d w := by
  simp [underlying, h]
theorem run_isAgg {P : Program} {t : TypeId} {d : TypeDesc} (h : P.underlying t = some d) (w : World) : (isAgg t).run P w = .ok (isAggB P t) w := by
  simp only [isAgg, isAggB, Sem.run_bind, run_underlying h, Result.andThen_ok, h]
  cases d <;> rfl
theorem run_zeroValue {P : Program} {t : TypeId} {ii : TypeInfo} {z : Value} (h : P.info? t = some ii) (hz : ii.zero = some z) (w : World) : (zeroValue t).run P w = .ok z w := by
  simp [zeroValue, run_typeInfo h, hz]

theorem cell_row {w : World} {b : Nat} {c : Array Value} {e : TypeId} {fr : Nat × Nat} (h : w.heap[b]? = some (.cells c e fr)) (j : Nat) : w.cell? ⟨b, j, none⟩ = c[j]? := cell_of_row w b j c e fr h

theorem add_none (b o i : Nat) : (⟨b, o, none⟩ : Addr).add i = ⟨b, o + i, none⟩ := by
  unfold Addr.add
  split
  · rename_i h; subst h; rfl
  · rfl

theorem run_loadCells_row {P : Program} {w : World} {b o n : Nat} {c : Array Value} {e : TypeId} {fr : Nat × Nat} (h : w.heap[b]? = some (.cells c e fr)) (hn : o + n ≤ c.size) :
    (loadCells ⟨b, o, none⟩ n).run P w = .ok ((c.toList.drop o).take n).toArray w := by
  have := run_loadCells_list (P := P) (w := w) ⟨b, o, none⟩ ((c.toList.drop o).take n) (fun j v hj => by
    rw [add_none, cell_row h]
    have hj' : j < n := by
      have := (List.getElem?_eq_some_iff.1 hj).1
      simp at this; omega
    rw [List.getElem?_take, if_pos hj', List.getElem?_drop] at hj
    simpa using hj)
  simpa [show min n (c.size - o) = n by omega] using this

/-- A row of cells in the place of another one. -/
def putRow (w : World) (b : Nat) (c : Array Value) (e : TypeId) (fr : Nat × Nat) : World := { w with heap := w.heap.setIfInBounds b (.cells c e fr) }

def spliceV (c : Array Value) (o : Nat) : List Value → Array Value
  | [] => c
  | v :: r => spliceV (c.setIfInBounds o v) (o + 1) r

theorem spliceV_size (c : Array Value) (o : Nat) (vs : List Value) : (spliceV c o vs).size = c.size := by
  induction vs generalizing c o with
  | nil => rfl
  | cons v r ih => simp [spliceV, ih]

theorem spliceV_getD (c : Array Value) (o : Nat) (vs : List Value) (h : o + vs.length ≤ c.size) (i : Nat) :
    (spliceV c o vs).getD i undef = if o ≤ i ∧ i < o + vs.length then vs.getD (i - o) undef else c.getD i undef := by
  induction vs generalizing c o with
  | nil => simp [spliceV]; omega
  | cons v r ih =>
    simp only [spliceV, List.length_cons] at h ⊢
    rw [ih _ _ (by simp; omega)]
    by_cases h1 : o + 1 ≤ i ∧ i < o + 1 + r.length
    · rw [if_pos h1, if_pos (by omega)]
      rw [show i - o = (i - (o + 1)) + 1 by omega]
      rfl
    · rw [if_neg h1]
      by_cases h2 : i = o
      · subst h2
        rw [if_pos (by omega)]
        simp [Array.getD_eq_getD_getElem?, show i < c.size by omega]
      · rw [if_neg (by omega)]
        simp [Array.getD_eq_getD_getElem?, Array.getElem?_setIfInBounds_ne (Ne.symm h2)]

theorem setCell_row {w : World} {b o : Nat} {c : Array Value} {e : TypeId} {fr : Nat × Nat} (h : w.heap[b]? = some (.cells c e fr)) (v : Value) :
    w.setCell ⟨b, o, none⟩ v = putRow w b (c.setIfInBounds o v) e fr := by
  unfold World.setCell putRow
  congr 1
  have hlt := heap_lt h
  apply Array.ext_getElem?
  intro k
  rw [Array.getElem?_modify, Array.getElem?_setIfInBounds]
  by_cases hk : b = k
  · subst hk
    have hg := (Array.getElem?_eq_some_iff.1 h).2
    simp [hlt, hg]
  · simp [hk]

theorem putRow_get {w : World} {b : Nat} {c : Array Value} {e : TypeId} {fr : Nat × Nat} (hb : b < w.heap.size) (k : Nat) :
    (putRow w b c e fr).heap[k]? = if b = k then some (.cells c e fr) else w.heap[k]? := by
  unfold putRow
  rw [Array.getElem?_setIfInBounds]
  by_cases hk : b = k
  · simp [hk]; omega
  · simp [hk]

theorem putRow_putRow (w : World) (b : Nat) (c c' : Array Value) (e : TypeId) (fr : Nat × Nat) : putRow (putRow w b c e fr) b c' e fr = putRow w b c' e fr := by
  simp [putRow, Array.setIfInBounds_setIfInBounds]

theorem putRow_self {w : World} {b : Nat} {c : Array Value} {e : TypeId} {fr : Nat × Nat} (h : w.heap[b]? = some (.cells c e fr)) : putRow w b c e fr = w := by
  unfold putRow
  have : w.heap.setIfInBounds b (.cells c e fr) = w.heap := by
    apply Array.ext_getElem?
    intro k
    rw [Array.getElem?_setIfInBounds]
    by_cases hk : b = k
    · subst hk
      have hg := (Array.getElem?_eq_some_iff.1 h).2
      simp [heap_lt h, hg]
    · simp [hk]
  rw [this]

theorem frozen_row {w : World} {b j n : Nat} {c : Array Value} {e : TypeId} {fr : Nat × Nat} (h : w.heap[b]? = some (.cells c e fr)) (hf : bare fr n) (hj : j < n) : w.frozen? ⟨b, j, none⟩ = false := by
  obtain ⟨lo, hi⟩ := fr
  have := hf j hj
  simp only [World.frozen?, h]
  simp only at this
  by_cases h1 : lo ≤ j <;> by_cases h2 : j < hi <;> simp_all

theorem run_storeCells_row {P : Program} {b : Nat} {e : TypeId} {fr : Nat × Nat} : ∀ (vs : List Value) (w : World) (o i : Nat) (c : Array Value), w.heap[b]? = some (.cells c e fr) → bare fr c.size → o + i + vs.length ≤ c.size →
    (∀ v ∈ vs, oneC v) → (storeCells ⟨b, o, none⟩ vs i).run P w = .ok () (putRow w b (spliceV c (o + i) vs) e fr)
  | [], w, o, i, c, h, _, _, _ => by simp [storeCells, spliceV, putRow_self h]
  | v :: r, w, o, i, c, h, hf, hn, h1 => by
    simp only [List.length_cons] at hn
    have hv := h1 v (by simp)
    unfold storeCells
    rw [Sem.run_bind, run_store P w _ v .plain hv, add_none, cell_row h]
    have hlt : o + i < c.size := by omega
    simp only [Array.getElem?_eq_getElem hlt, frozen_row h hf hlt]
    simp only [Bool.false_eq_true, if_false, Result.andThen_ok]
    have hp : (putRow w b (c.setIfInBounds (o + i) v) e fr).heap[b]? = some (.cells (c.setIfInBounds (o + i) v) e fr) := by rw [putRow_get (heap_lt h), if_pos rfl]
    rw [setCell_row h, run_storeCells_row r _ o (i + 1) (c.setIfInBounds (o + i) v) hp (by simpa using hf) (by simp; omega) (fun v hv => h1 v (by simp [hv]))]
    simp only [spliceV, putRow_putRow, Nat.add_assoc]

/-- A new block under a free name. -/
def Cx.new (C : Cx) (nm : Nat) (blk : Blk) (o : Obj) (eta : Option (Nat × Nat)) : Cx where
  w := C.w.alloc o
  H := C.H.put nm blk
  ρ := fun n => if n = nm then some C.w.heap.size else C.ρ n
  η := fun n => if n = nm then eta else C.η n
  hid := C.hid

theorem get_put (H : Heap) (n m : Nat) (b : Blk) : (H.put n b).get m = if n = m then some b else H.get m := luk_cons n b H.bs m
theorem next_put (H : Heap) (n : Nat) (b : Blk) (h : H.next ≤ n) : (H.put n b).next = n + 1 := by
  simp only [Heap.put]
  have : Nat.ble (n + 1) H.next = false := by
    cases hb : Nat.ble (n + 1) H.next with
    | false => rfl
    | true => have := Nat.le_of_ble_eq_true hb; omega
  rw [this]; rfl

theorem Rel.lt {C : Cx} (hR : Rel C) {n : Nat} {x : Blk} {b : Nat} (hx : C.H.get n = some x) (hb : blockOf C n x = some b) : b < C.w.heap.size := by
  have h := hR.blocks n x hx
  cases x with
  | dead => cases hb
  | cells rw cs => obtain ⟨b', c, e, fr, h1, h2, _⟩ := h; simp only [VI.blockOf] at hb; rw [h1] at hb; cases hb; exact heap_lt h2
  | row rw t xs g =>
    rcases h with ⟨h1, _⟩ | ⟨b', cap, c, e, fr, h1, h2, _⟩
    · simp [VI.blockOf, h1] at hb
    · simp [VI.blockOf, h1] at hb; subst hb; exact heap_lt h2
  | urow rw sz cs g => obtain ⟨_, b', cap, c, e, fr, h1, h2, _⟩ := h; simp [VI.blockOf, h1] at hb; subst hb; exact heap_lt h2
  | tmap rw ka va κ ν es => obtain ⟨b', me, cl, h1, h2, _⟩ := h; simp only [VI.blockOf] at hb; rw [h1] at hb; cases hb; exact heap_lt h2
  | amap rw es => obtain ⟨b', me, cl, h1, h2, _⟩ := h; simp only [VI.blockOf] at hb; rw [h1] at hb; cases hb; exact heap_lt h2
  | siter s p => cases h

theorem Cx.new_block {C : Cx} {nm : Nat} {blk : Blk} {o : Obj} {eta : Option (Nat × Nat)} (he : ∀ b cp, eta = some (b, cp) → b = C.w.heap.size) {b : Nat} (h : blockOf (C.new nm blk o eta) nm blk = some b) : b = C.w.heap.size := by
  have key : eta.map (·.1) = some b → b = C.w.heap.size := fun h => by
    cases eta with
    | none => cases h
    | some p => obtain ⟨b1, c1⟩ := p; cases h; exact he b1 c1 rfl
  cases blk <;> simp only [blockOf, Cx.new] at h
  case dead => cases h
  case row => exact key (by simpa using h)
  case urow => exact key (by simpa using h)
  all_goals (simp at h; exact h.symm)

theorem Cx.new_step {C : Cx} (hR : Rel C) {nm : Nat} (hn : C.H.next ≤ nm) (blk : Blk) (o : Obj) (eta : Option (Nat × Nat)) (he : ∀ b cp, eta = some (b, cp) → b = C.w.heap.size) : Step C (C.new nm blk o eta) where
  next := by show C.H.next ≤ (C.H.put nm blk).next; rw [next_put _ _ _ hn]; omega
  ρ n b hb := by
    have : n ≠ nm := fun h => by rw [h, (hR.names nm hn).2] at hb; cases hb
    simp [Cx.new, this, hb]
  rows n blk' g hlt hb hg := by
    have hne : ¬ nm = n := by omega
    have hb' : (C.H.put nm blk).get n = some blk' := hb
    rw [get_put, if_neg hne] at hb'
    exact ⟨blk', g, hb', hg, Nat.le_refl _, fun _ => ⟨rfl, rfl, by simp [Cx.new, Ne.symm hne]⟩⟩
  size := by simp [Cx.new]
  frame b hb _ := heap_alloc_old _ _ _ hb
  hid _ h := h
  dead n hlt hg := by
    have hne : ¬ nm = n := by omega
    exact ⟨by show (C.H.put nm blk).get n = none; rw [get_put, if_neg hne]; exact hg, by simp [Cx.new, Ne.symm hne]⟩
  hframe b hb _ := heap_alloc_old _ _ _ hb
  own b hb := by
    rcases hb with hb | ⟨n, x, hx, hr, hbo⟩
    · exact .inl (.inl hb)
    have hx' : (C.H.put nm blk).get n = some x := hx
    rw [get_put] at hx'
    by_cases h : nm = n
    · right
      subst h
      rw [if_pos rfl] at hx'
      cases hx'
      exact Nat.le_of_eq (Cx.new_block he hbo).symm
    · rw [if_neg h] at hx'
      refine .inl (.inr ⟨n, x, hx', hr, ?_⟩)
      rw [← hbo]
      cases x <;> simp [blockOf, Cx.new, Ne.symm h]
  os := rfl
  tape := rfl
  output := rfl

theorem Cx.new_rel {C : Cx} (hR : Rel C) {nm : Nat} (hn : C.H.next ≤ nm) {blk : Blk} {o : Obj} {eta : Option (Nat × Nat)} (he : ∀ b cp, eta = some (b, cp) → b = C.w.heap.size)
    (hb : BlkR (C.new nm blk o eta) nm blk) : Rel (C.new nm blk o eta) := by
  have hs := Cx.new_step hR hn blk o eta he
  have old : ∀ n x, (C.H.put nm blk).get n = some x → nm ≠ n → C.H.get n = some x := fun n x h hne => by rw [get_put, if_neg hne] at h; exact h
  have bo : ∀ n x, nm ≠ n → blockOf (C.new nm blk o eta) n x = blockOf C n x := fun n x hne => by cases x <;> simp [blockOf, Cx.new, Ne.symm hne]
  have bn : ∀ b, blockOf (C.new nm blk o eta) nm blk = some b → b = C.w.heap.size := fun b h => Cx.new_block he h
  refine ⟨fun n h => ?_, fun n x hx => ?_, fun n m x y b hx hy hr h1 h2 => ?_, fun b hb => ?_⟩
  · have h' : (C.H.put nm blk).next ≤ n := h
    rw [next_put _ _ _ hn] at h'
    have hne : nm ≠ n := by omega
    obtain ⟨h1, h2⟩ := hR.names n (by omega)
    refine ⟨?_, ?_⟩
    · show (C.H.put nm blk).get n = none
      rw [get_put, if_neg hne]; exact h1
    · simp [Cx.new, Ne.symm hne, h2]
  · have hx' : (C.H.put nm blk).get n = some x := hx
    by_cases hne : nm = n
    · subst hne
      rw [get_put, if_pos rfl] at hx'
      cases hx'
      exact hb
    · have hx2 := old n x hx' hne
      refine (hR.blocks n x hx2).keep hs (by simp [Cx.new, Ne.symm hne]) (fun k ob hk ho => ?_)
      have := hR.lt hx2 hk
      show (C.w.alloc o).heap[k]? = some ob
      rw [heap_alloc_old _ _ _ this]; exact ho
  · have hx' : (C.H.put nm blk).get n = some x := hx
    have hy' : (C.H.put nm blk).get m = some y := hy
    by_cases hne : nm = n <;> by_cases hme : nm = m
    · omega
    · exfalso
      subst hne
      rw [get_put, if_pos rfl] at hx'
      cases hx'
      have e1 := bn b h1
      have e2 := hR.lt (old m y hy' hme) (by rw [← bo m y hme]; exact h2)
      omega
    · exfalso
      subst hme
      rw [get_put, if_pos rfl] at hy'
      cases hy'
      have e1 := bn b h2
      have e2 := hR.lt (old n x hx' hne) (by rw [← bo n x hne]; exact h1)
      omega
    · exact hR.dist n m x y b (old n x hx' hne) (old m y hy' hme) hr (by rw [← bo n x hne]; exact h1) (by rw [← bo m y hme]; exact h2)
  · obtain ⟨h1, h2⟩ := hR.hid b hb
    refine ⟨Nat.lt_of_lt_of_le h1 hs.size, fun n x hx hbo => ?_⟩
    have hx' : (C.H.put nm blk).get n = some x := hx
    by_cases hne : nm = n
    · subst hne
      rw [get_put, if_pos rfl] at hx'
      cases hx'
      have := bn b hbo
      omega
    · exact h2 n x (old n x hx' hne) (by rw [← bo n x hne]; exact hbo)

/-- One block of the call's own changes; all others stay. -/
structure Upd (C C' : Cx) (n : Nat) (blk blk' : Blk) : Prop where
  get : C.H.get n = some blk
  rw : rwOf blk = true
  H : C'.H = C.H.set n blk'
  ρ : C'.ρ = C.ρ
  η : ∀ m, m ≠ n → C'.η m = C.η m
  size : C.w.heap.size ≤ C'.w.heap.size
  frame : ∀ k, k < C.w.heap.size → blockOf C n blk ≠ some k → C'.w.heap[k]? = C.w.heap[k]?
  own : ∀ k, blockOf C' n blk' = some k → blockOf C n blk = some k ∨ C.w.heap.size ≤ k
  hid : C'.hid = C.hid
  free : ∀ k, C.hid k → blockOf C n blk ≠ some k
  gen : ∀ g, genOf blk' = some g → ∃ g0, genOf blk = some g0 ∧ g0 ≤ g ∧ (g0 = g → lenOf blk' = lenOf blk ∧ szOf blk' = szOf blk ∧ C'.η n = C.η n)
  os : C'.w.os = C.w.os
  tape : C'.w.tape = C.w.tape
  output : C'.w.output = C.w.output

theorem Upd.got {C C' : Cx} {n : Nat} {blk blk' : Blk} (h : Upd C C' n blk blk') (m : Nat) : C'.H.get m = if n = m then some blk' else C.H.get m := by rw [h.H, get_set]
theorem Upd.bo {C C' : Cx} {n : Nat} {blk blk' : Blk} (h : Upd C C' n blk blk') {m : Nat} (hm : n ≠ m) (x : Blk) : blockOf C' m x = blockOf C m x := by
  cases x <;> simp [blockOf, h.ρ, h.η m (Ne.symm hm)]

theorem Upd.step {C C' : Cx} {n : Nat} {blk blk' : Blk} (h : Upd C C' n blk blk') : Step C C' where
  next := by rw [h.H]; exact Nat.le_refl _
  ρ k b hb := by rw [h.ρ]; exact hb
  rows m x g hlt hx hg := by
    rw [h.got] at hx
    by_cases hm : n = m
    · subst hm
      rw [if_pos rfl] at hx
      cases hx
      obtain ⟨g0, h1, h2, h3⟩ := h.gen g hg
      exact ⟨blk, g0, h.get, h1, h2, h3⟩
    · rw [if_neg hm] at hx
      exact ⟨x, g, hx, hg, Nat.le_refl _, fun _ => ⟨rfl, rfl, h.η m (Ne.symm hm)⟩⟩
  size := h.size
  frame b hb ho := h.frame b hb fun hk => ho (.inr ⟨n, blk, h.get, h.rw, hk⟩)
  hid b hb := by rw [h.hid]; exact hb
  dead m _ hg := by
    refine ⟨?_, by rw [h.ρ]⟩
    rw [h.got]
    by_cases hm : n = m
    · subst hm; rw [h.get] at hg; cases hg
    · rw [if_neg hm]; exact hg
  hframe b hb hh := h.frame b hb (h.free b hh)
  own b hb := by
    rcases hb with hb | ⟨m, x, hx, hr, hbo⟩
    · exact .inl (.inl (by rw [← h.hid]; exact hb))
    rw [h.got] at hx
    by_cases hm : n = m
    · subst hm
      rw [if_pos rfl] at hx
      cases hx
      rcases h.own b hbo with h1 | h1
      · exact .inl (.inr ⟨n, blk, h.get, h.rw, h1⟩)
      · exact .inr h1
    · rw [if_neg hm] at hx
      exact .inl (.inr ⟨m, x, hx, hr, by rw [← h.bo hm]; exact hbo⟩)
  os := h.os
  tape := h.tape
  output := h.output

theorem Upd.rel {C C' : Cx} {n : Nat} {blk blk' : Blk} (h : Upd C C' n blk blk') (hR : Rel C) (hb : BlkR C' n blk') : Rel C' where
  names m hm := by
    rw [h.H] at hm
    obtain ⟨h1, h2⟩ := hR.names m hm
    have hne : n ≠ m := fun e => by subst e; rw [h.get] at h1; cases h1
    exact ⟨by rw [h.got, if_neg hne]; exact h1, by rw [h.ρ]; exact h2⟩
  blocks m x hx := by
    rw [h.got] at hx
    by_cases hm : n = m
    · subst hm
      rw [if_pos rfl] at hx
      cases hx
      exact hb
    · rw [if_neg hm] at hx
      refine (hR.blocks m x hx).keep h.step (h.η m (Ne.symm hm)) fun k o hk ho => ?_
      rw [h.frame k (hR.lt hx hk) fun hk' => hm (hR.dist n m blk x k h.get hx h.rw hk' hk)]
      exact ho
  dist i j x y b hx hy hr h1 h2 := by
    rw [h.got] at hx hy
    by_cases hi : n = i <;> by_cases hj : n = j
    · exact hi.symm.trans hj
    · subst hi
      rw [if_pos rfl] at hx
      rw [if_neg hj] at hy
      cases hx
      rw [h.bo hj] at h2
      rcases h.own b h1 with h3 | h3
      · exact hR.dist n j blk y b h.get hy h.rw h3 h2
      · have := hR.lt hy h2; omega
    · subst hj
      rw [if_pos rfl] at hy
      rw [if_neg hi] at hx
      cases hy
      rw [h.bo hi] at h1
      rcases h.own b h2 with h3 | h3
      · exact hR.dist i n x blk b hx h.get hr h1 h3
      · have := hR.lt hx h1; omega
    · rw [if_neg hi] at hx
      rw [if_neg hj] at hy
      rw [h.bo hi] at h1
      rw [h.bo hj] at h2
      exact hR.dist i j x y b hx hy hr h1 h2
  hid b hb := by
    rw [h.hid] at hb
    obtain ⟨h1, h2⟩ := hR.hid b hb
    refine ⟨Nat.lt_of_lt_of_le h1 h.size, fun m x hx hbo => ?_⟩
    rw [h.got] at hx
    by_cases hm : n = m
    · subst hm
      rw [if_pos rfl] at hx
      cases hx
      rcases h.own b hbo with h3 | h3
      · exact h2 n blk h.get h3
      · omega
    · rw [if_neg hm] at hx
      exact h2 m x hx (by rw [← h.bo hm]; exact hbo)

end Go.VI
