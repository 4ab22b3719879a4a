/-
  Each operation does what the interpreter says: part G (append, conversions, makes).
-/
import Derived.Test.YtjocfknaojbemaaVIOpF
import Derived.Laws.Append
import Derived.Laws.AppendOwn
import Derived.Laws.MakeOwn
import Derived.Laws.BytesString
namespace Go.VI

variable {P : Program} {E : Env} {C : Cx} {a : Act} {ρ : Operand → A}

/-- Where elements lie, one behind the other. -/
def Lies (C : Cx) (t : Ty) (xs : List t.den) (ad : Option Addr) : Prop :=
  xs ≠ [] → ∃ b o c e fr, ad = some ⟨b, o, none⟩ ∧ C.w.heap[b]? = some (.cells c e fr) ∧ o + xs.length * t.size ≤ c.size ∧
      (∀ i j, i < xs.length → j < t.size → VR C ((enc t (rd xs i)).getD j .bot) (c.getD (o + i * t.size + j) undef)) ∧ ∀ i j, i < xs.length → j < t.size → oneC (c.getD (o + i * t.size + j) undef)

theorem hsl_lies {n g : Nat} {sub : Option (Nat × Nat)} {ad : Option Addr} {len cap : Nat} {rw : Bool} {t : Ty} {xs : List t.den} (hR : Rel C)
    (hb : C.H.get n = some (.row rw t xs g)) (hv : VR C (.hsl n g sub) (.slice ad len cap)) : len = (subOf xs sub).length ∧ Lies C t (subOf xs sub) ad := by
  cases hv with
  | hsl _ _ _ _ _ _ hn hcap hle h =>
    obtain ⟨h1, h2⟩ := h _ hb rfl
    have hlen : len = (subOf xs sub).length := by
      cases sub with
      | none => exact h1
      | some p => obtain ⟨o, l⟩ := p; rw [subOf_length xs o l h2.1]; exact h1
    refine ⟨hlen, fun he => ?_⟩
    rcases hR.blocks n _ hb with ⟨_, hx⟩ | ⟨b, cp, c, e, fr, h3, h4, h5, h6, h7, h8, h9⟩
    · exfalso; apply he; rw [hx]; cases sub <;> simp [subOf]
    · have hcapm := Nat.mul_le_mul_right t.size h7
      cases sub with
      | none =>
        simp only [h3] at h2
        obtain ⟨rfl, rfl⟩ := h2
        refine ⟨b, 0, c, e, fr, rfl, h4, by simp only [subOf]; omega, fun i j hi hj => ?_, fun i j hi hj => ?_⟩
        · rw [Nat.zero_add]; exact h8 i j hi hj
        · simp only [subOf] at hi
          have := mul_lt_row hi hj
          exact h9 _ (by omega)
      | some p =>
        obtain ⟨o, l⟩ := p
        obtain ⟨h10, h11⟩ := h2
        simp only [lenOf] at h10
        have hl := subOf_length xs o l h10
        have hl0 : l ≠ 0 := fun h0 => he (List.eq_nil_of_length_eq_zero (by rw [hl, h0]))
        obtain ⟨b', cp', h12, rfl⟩ := h11 hl0
        rw [h3] at h12
        cases h12
        refine ⟨b, o * t.size, c, e, fr, rfl, h4, ?_, fun i j hi hj => ?_, fun i j hi hj => ?_⟩
        · rw [hl, ← Nat.add_mul]
          have : (o + l) * t.size ≤ xs.length * t.size := Nat.mul_le_mul_right _ h10
          omega
        · rw [hl] at hi
          rw [← Nat.add_mul]
          simp only [subOf]
          rw [rd_drop_take xs o l i hi]
          exact h8 (o + i) j (by omega) hj
        · rw [hl] at hi
          rw [← Nat.add_mul]
          have := mul_lt_row (n := xs.length) (show o + i < xs.length by omega) hj
          exact h9 _ (by omega)

/-- The typed elements that a slice shows. -/
theorem elems_sound {t : Ty} {y : A} {vy : Value} {xs : List t.den} (hR : Rel C) (hy : VR C y vy) (h : elems C.H t y = some xs) :
    ∃ ad cap, vy = .slice ad xs.length cap ∧ Lies C t xs ad := by
  unfold elems at h
  split at h
  · cases h
    cases hy
    exact ⟨none, 0, rfl, fun h => absurd rfl h⟩
  · split at h
    · rename_i ht
      subst ht
      cases h
      cases hy with
      | sl0 _ ad cap => exact ⟨ad, cap, rfl, fun h => absurd rfl h⟩
      | sl _ _ b o cap c e fr hb hno hs hcap hc h1 => exact ⟨_, cap, rfl, fun _ => ⟨b, o, c, e, fr, rfl, hb, hs, hc, h1⟩⟩
    · cases h
  · rename_i n g sub
    split at h
    · rename_i rw t' ys g' hg
      split at h
      · rename_i ht
        subst ht
        split at h
        · rename_i hgg
          subst hgg
          cases h
          cases hy with
          | hsl _ _ _ ad len cap hn hcap hle hh =>
            obtain ⟨h1, h2⟩ := hsl_lies hR hg (.hsl _ _ _ ad len cap hn hcap hle hh)
            subst h1
            exact ⟨ad, cap, rfl, h2⟩
        · cases h
      · cases h
    · cases h
  · cases h

/-- The cells of what is appended, or copied. -/
def srcCells (t : Ty) (xs : List t.den) (c : Array Value) (o : Nat) : List Value := (c.toList.drop o).take (xs.length * t.size)

theorem run_firstCells {t : Ty} {xs : List t.den} {ad : Option Addr} {cap size : Nat} (hs : t.size = size) (hl : Lies C t xs ad) :
    ∃ news : List Value, news.length = xs.length * size ∧ (∀ w : World, w.heap = C.w.heap → (Builtin.firstCells size xs.length (.slice ad xs.length cap)).run P w = .ok news.toArray w) ∧
      (∀ i j, i < xs.length → j < size → VR C ((enc t (rd xs i)).getD j .bot) (news.getD (i * size + j) undef)) ∧ ∀ v ∈ news, oneC v := by
  subst hs
  by_cases he : xs = []
  · subst he
    refine ⟨[], by simp, fun w hw => ?_, fun i j hi => absurd hi (by simp), fun v hv => by cases hv⟩
    cases ad with
    | none => simp [Builtin.firstCells]
    | some p => simp [Builtin.firstCells, loadCells, loadCellsFrom]
  · obtain ⟨b, o, c, e, fr, rfl, hb, hs, hc, h1⟩ := hl he
    refine ⟨(c.toList.drop o).take (xs.length * t.size), by simp; omega, fun w hw => ?_, fun i j hi hj => ?_, fun v hv => ?_⟩
    · simp only [Builtin.firstCells]
      exact run_loadCells_row (by rw [hw]; exact hb) hs
    · have := mul_lt_row hi hj
      rw [getD_take _ _ _ _ (by omega), getD_drop, toList_getD, ← Nat.add_assoc]
      exact hc i j hi hj
    · obtain ⟨k, hk, rfl⟩ := List.getElem_of_mem hv
      simp at hk
      rw [Nat.lt_min] at hk
      have hk1 : k < xs.length * t.size := hk.1
      have hpos : 0 < t.size := Nat.pos_of_ne_zero fun h0 => by rw [h0] at hk1; simp at hk1
      have e1 : k = k / t.size * t.size + k % t.size := by rw [Nat.mul_comm]; exact (Nat.div_add_mod k t.size).symm
      have hq : k / t.size < xs.length := Nat.div_lt_of_lt_mul (by rw [Nat.mul_comm]; exact hk1)
      have := h1 (k / t.size) (k % t.size) hq (Nat.mod_lt _ hpos)
      rw [Nat.add_assoc, ← e1] at this
      simp
      simpa [Array.getD_eq_getD_getElem?, show o + k < c.size by omega] using this

theorem run_append_fit {t u ty e : TypeId} {du : TypeDesc} {ii : TypeInfo} {b sLen sCap n : Nat} {c : Array Value} {e1 : TypeId} {fr : Nat × Nat} {x : Value} {news : List Value} {w : World} (ht : P.underlying t = some (.slice e)) (hu : P.underlying u = some du) (hnu : ∀ k, du ≠ .int k) (hi : P.info? e = some ii)
    (hlen : (Builtin.lenOf x).run P w = .ok n w) (hfirst : (Builtin.firstCells ii.size n x).run P w = .ok news.toArray w) (hnl : news.length = n * ii.size) (hn1 : ∀ v ∈ news, oneC v) (hroom : sLen + n ≤ sCap) (hb : w.heap[b]? = some (.cells c e1 fr)) (hf : bare fr c.size) (hc : sCap * ii.size ≤ c.size) :
    (Builtin.append_ #[t, u] ty #[.slice (some ⟨b, 0, none⟩) sLen sCap, x]).run P w = .ok (.slice (some ⟨b, 0, none⟩) (sLen + n) sCap) (putRow w b (spliceV c (sLen * ii.size) news) e1 fr) := by
  have hmul : (sLen + n) * ii.size ≤ sCap * ii.size := Nat.mul_le_mul_right _ hroom
  rw [Nat.add_mul] at hmul
  have hst := run_storeCells_row (P := P) news w (sLen * ii.size) 0 c hb hf (by omega) hn1
  rw [Nat.add_zero] at hst
  simp only [Builtin.append_, List.getElem?_toArray, List.getElem?_cons_zero, List.getElem?_cons_succ, Sem.run_bind, run_underlying ht, Result.andThen_ok, run_sizeOf hi, run_underlying hu, Sem.run_pure]
  simp only [Sem.run_bind, Result.andThen_ok, Bool.false_eq_true, if_false, hlen, Bool.not_false, if_true]
  rw [Sem.run_ite, if_pos hroom]
  simp only [Sem.run_bind, hfirst, Result.andThen_ok, add_none, Nat.zero_add, hst, Sem.run_pure]

theorem run_append_new {t u ty e : TypeId} {du : TypeDesc} {ii : TypeInfo} {z : Value} {ad : Option Addr} {sLen sCap n : Nat} {x : Value} {olds news : List Value} {w : World} (ht : P.underlying t = some (.slice e)) (hu : P.underlying u = some du) (hnu : ∀ k, du ≠ .int k) (hi : P.info? e = some ii) (hz : ii.zero = some z)
    (hlen : (Builtin.lenOf x).run P w = .ok n w) (hfirst : ∀ w', w'.heap = w.heap → (Builtin.firstCells ii.size n x).run P w' = .ok news.toArray w') (hold : ∀ w', w'.heap = w.heap → (Builtin.firstCells ii.size sLen (.slice ad sLen sCap)).run P w' = .ok olds.toArray w')
    (hg : sCap < sLen + n) (hbytes : 0 < ii.bytes) (hfit : (sLen + n) * ii.bytes ≤ 140737488355328) :
    (Builtin.append_ #[t, u] ty #[.slice ad sLen sCap, x]).run P w = .ok (.slice (some ⟨w.heap.size, 0, none⟩) (sLen + n) (grownCap w (sLen + n) sCap e))
      { w with heap := w.heap.push (.cells (olds.toArray ++ news.toArray ++ Builtin.zeroCells z.cells (grownCap w (sLen + n) sCap e - (sLen + n))) e), drawn := w.drawn + 1 } := by
  have hcap := growslice_fits hg hfit
  have hq : (Question.appendCap (sLen + n) sCap e).forced = false := rfl
  have h1 := hold { w with drawn := w.drawn + 1 } rfl
  have h2 := hfirst { w with drawn := w.drawn + 1 } rfl
  simp only [Builtin.append_, List.getElem?_toArray, List.getElem?_cons_zero, List.getElem?_cons_succ, Sem.run_bind, run_underlying ht, Result.andThen_ok, run_sizeOf hi, run_underlying hu, Sem.run_pure]
  simp only [Sem.run_bind, Result.andThen_ok, Bool.false_eq_true, if_false, hlen, Bool.not_false, if_true]
  rw [Sem.run_ite, if_neg (by omega)]
  simp only [Sem.run_bind, run_typeInfo hi, Result.andThen_ok]
  rw [Sem.run_ite, if_neg (by simp; omega)]
  simp only [Sem.run_bind, run_typeInfo hi, Result.andThen_ok]
  rw [Sem.run_ite, if_neg (by omega)]
  simp only [Sem.run_bind, run_choose, hq, Bool.false_eq_true, if_false, Result.andThen_ok, run_typeInfo hi, run_askRoom, h1, h2, run_zeroValue hi hz, newRow, run_newObj, Sem.run_pure]
  rfl

theorem rd_append {t : Ty} (xs ys : List t.den) (i : Nat) : rd (xs ++ ys) i = if i < xs.length then rd xs i else rd ys (i - xs.length) := by
  unfold rd
  by_cases h : i < xs.length
  · rw [if_pos h, getD_append_left _ _ _ _ h]
  · rw [if_neg h, getD_append_right _ _ _ _ (by omega)]

theorem zeroCells_one {z : Array Value} {n : Nat} (hz : ∀ i, i < z.size → oneC (z.getD i undef)) : ∀ i, i < (Builtin.zeroCells z n).size → oneC ((Builtin.zeroCells z n).getD i undef) := fun i hi => by
  rw [size_zeroCells] at hi
  have hpos : 0 < z.size := Nat.pos_of_ne_zero fun h => by rw [h] at hi; simp at hi
  have hlt := Nat.mod_lt i hpos
  have := hz _ hlt
  simp [Builtin.zeroCells, Array.getD_eq_getD_getElem?, hi, hlt] at this ⊢
  exact this

/-- Elements behind one another, in a new array. -/
theorem concat_row {t : Ty} {xs ys : List t.den} {olds news : List Value} {rest : Array Value} (ho : olds.length = xs.length * t.size) (hn : news.length = ys.length * t.size)
    (h1 : ∀ i j, i < xs.length → j < t.size → VR C ((enc t (rd xs i)).getD j .bot) (olds.getD (i * t.size + j) undef)) (h2 : ∀ i j, i < ys.length → j < t.size → VR C ((enc t (rd ys i)).getD j .bot) (news.getD (i * t.size + j) undef)) :
    ∀ i j, i < (xs ++ ys).length → j < t.size → VR C ((enc t (rd (xs ++ ys) i)).getD j .bot) ((olds.toArray ++ news.toArray ++ rest).getD (i * t.size + j) undef) := fun i j hi hj => by
  rw [List.length_append] at hi
  have e : (olds.toArray ++ news.toArray ++ rest).getD (i * t.size + j) undef = (olds ++ (news ++ rest.toList)).getD (i * t.size + j) undef := by
    rw [← toList_getD]
    simp
  rw [e, rd_append]
  by_cases hx : i < xs.length
  · have := mul_lt_row hx hj
    rw [if_pos hx, getD_append_left _ _ _ _ (by omega)]
    exact h1 i j hx hj
  · have h3 : (i - xs.length) * t.size = i * t.size - xs.length * t.size := Nat.sub_mul _ _ _
    have h4 : xs.length * t.size ≤ i * t.size := Nat.mul_le_mul_right _ (by omega)
    have := mul_lt_row (show i - xs.length < ys.length by omega) hj
    rw [if_neg hx, getD_append_right _ _ _ _ (by omega), getD_append_left _ _ _ _ (by omega), show i * t.size + j - olds.length = (i - xs.length) * t.size + j by omega]
    exact h2 _ j (by omega) hj

theorem concat_one {olds news : List Value} {rest : Array Value} (h1 : ∀ v ∈ olds, oneC v) (h2 : ∀ v ∈ news, oneC v) (h3 : ∀ i, i < rest.size → oneC (rest.getD i undef)) :
    ∀ i, i < (olds.toArray ++ news.toArray ++ rest).size → oneC ((olds.toArray ++ news.toArray ++ rest).getD i undef) := fun i hi => by
  have e : (olds.toArray ++ news.toArray ++ rest).getD i undef = (olds ++ (news ++ rest.toList)).getD i undef := by
    rw [← toList_getD]
    simp
  simp at hi
  rw [e]
  by_cases ha : i < olds.length
  · rw [getD_append_left _ _ _ _ ha]
    exact h1 _ (by rw [List.getD_eq_getElem?_getD, List.getElem?_eq_getElem ha]; exact List.getElem_mem ha)
  · rw [getD_append_right _ _ _ _ (by omega)]
    by_cases hb : i - olds.length < news.length
    · rw [getD_append_left _ _ _ _ hb]
      exact h2 _ (by rw [List.getD_eq_getElem?_getD, List.getElem?_eq_getElem hb]; exact List.getElem_mem hb)
    · rw [getD_append_right _ _ _ _ (by omega), toList_getD]
      exact h3 _ (by omega)

/-- What is appended: its number, and its cells. -/
structure Src (P : Program) (C : Cx) (t : Ty) (size : Nat) (ys : List t.den) (v : Value) : Prop where
  cells : ∃ news : List Value, news.length = ys.length * size ∧ (∀ w : World, w.heap = C.w.heap → (Builtin.firstCells size ys.length v).run P w = .ok news.toArray w) ∧
      (∀ i j, i < ys.length → j < size → VR C ((enc t (rd ys i)).getD j .bot) (news.getD (i * size + j) undef)) ∧ ∀ u ∈ news, oneC u
  len : ∀ w : World, (Builtin.lenOf v).run P w = .ok ys.length w

/-- A row without memory yet. -/
def Cx.nilRow (C : Cx) (nm : Nat) (t : Ty) : Cx := { C with H := C.H.put nm (.row true t [] 0), η := fun n => if n = nm then none else C.η n }

theorem nilRow_out {o : Oper} {nm : Nat} {t : Ty} (hR : Rel C) (hn : C.H.next ≤ nm) (hr : (execOp a.eval o).run P C.w = .ok (.value (.slice none 0 0)) C.w) : OutR P a o C (.hsl nm 0 none) (C.H.put nm (.row true t [] 0)) := by
  have hne : ∀ n, n < C.H.next → nm ≠ n := fun n h => by omega
  have hs : Step C (C.nilRow nm t) := {
    next := by show C.H.next ≤ (C.H.put nm _).next; rw [next_put _ _ _ hn]; omega
    ρ := fun _ _ h => h
    rows := fun n blk' g hlt hb hg => by
      have hb' : (C.H.put nm (.row true t [] 0)).get n = some blk' := hb
      rw [get_put, if_neg (hne n hlt)] at hb'
      exact ⟨blk', g, hb', hg, Nat.le_refl _, fun _ => ⟨rfl, rfl, by simp [Cx.nilRow, Ne.symm (hne n hlt)]⟩⟩
    size := Nat.le_refl _, frame := fun _ _ _ => rfl
    hid := fun _ h => h, hframe := fun _ _ _ => rfl
    dead := fun n hlt hg => ⟨by show (C.H.put nm (.row true t [] 0)).get n = none; rw [get_put, if_neg (hne n hlt)]; exact hg, rfl⟩
    own := fun b hb => by
      rcases hb with hb | ⟨n, x, hx, hr, hbo⟩
      · exact .inl (.inl hb)
      have hx' : (C.H.put nm (.row true t [] 0)).get n = some x := hx
      rw [get_put] at hx'
      by_cases h : nm = n
      · subst h; rw [if_pos rfl] at hx'; cases hx'; simp [blockOf, Cx.nilRow] at hbo
      · rw [if_neg h] at hx'
        refine .inl (.inr ⟨n, x, hx', hr, ?_⟩)
        rw [← hbo]; cases x <;> simp [blockOf, Cx.nilRow, Ne.symm h]
    os := rfl, tape := rfl, output := rfl }
  have bo : ∀ n x, nm ≠ n → blockOf (C.nilRow nm t) n x = blockOf C n x := fun n x h => by cases x <;> simp [blockOf, Cx.nilRow, Ne.symm h]
  have hRel : Rel (C.nilRow nm t) := {
    names := fun n h => by
      have h' : (C.H.put nm (.row true t [] 0)).next ≤ n := h
      rw [next_put _ _ _ hn] at h'
      obtain ⟨h1, h2⟩ := hR.names n (by omega)
      refine ⟨?_, h2⟩
      show (C.H.put nm _).get n = none
      rw [get_put, if_neg (by omega)]; exact h1
    blocks := fun n x hx => by
      have hx' : (C.H.put nm (.row true t [] 0)).get n = some x := hx
      rw [get_put] at hx'
      by_cases h : nm = n
      · subst h; rw [if_pos rfl] at hx'; cases hx'; exact .inl ⟨by simp [Cx.nilRow], rfl⟩
      · rw [if_neg h] at hx'
        exact (hR.blocks n x hx').keep hs (by simp [Cx.nilRow, Ne.symm h]) fun _ _ _ h => h
    dist := fun n m x y b hx hy hr h1 h2 => by
      have hx' : (C.H.put nm (.row true t [] 0)).get n = some x := hx
      have hy' : (C.H.put nm (.row true t [] 0)).get m = some y := hy
      rw [get_put] at hx' hy'
      by_cases h : nm = n
      · subst h; rw [if_pos rfl] at hx'; cases hx'; simp [blockOf, Cx.nilRow] at h1
      · by_cases k : nm = m
        · subst k; rw [if_pos rfl] at hy'; cases hy'; simp [blockOf, Cx.nilRow] at h2
        · rw [if_neg h] at hx'; rw [if_neg k] at hy'
          exact hR.dist n m x y b hx' hy' hr (by rw [← bo n x h]; exact h1) (by rw [← bo m y k]; exact h2)
    hid := fun b hb => by
      obtain ⟨h1, h2⟩ := hR.hid b hb
      refine ⟨h1, fun n x hx hbo => ?_⟩
      have hx' : (C.H.put nm (.row true t [] 0)).get n = some x := hx
      rw [get_put] at hx'
      by_cases h : nm = n
      · subst h; rw [if_pos rfl] at hx'; cases hx'; simp [blockOf, Cx.nilRow] at hbo
      · rw [if_neg h] at hx'; exact h2 n x hx' (by rw [← bo n x h]; exact hbo) }
  refine ⟨C.nilRow nm t, _, _, rfl, hr, .inl rfl, .hsl _ _ _ _ _ _ ?_ (Nat.le_refl _) (fun _ _ _ _ => Nat.zero_le _) (fun blk hb hg => ?_), hRel, hs⟩
  · show nm < (C.H.put nm _).next
    rw [next_put _ _ _ hn]; omega
  · have hb' : (C.H.put nm (.row true t [] 0)).get nm = some blk := hb
    rw [get_put, if_pos rfl] at hb'
    cases hb'
    exact ⟨rfl, by simp [Cx.nilRow]⟩

end Go.VI
