/-
  Each operation does what the interpreter says: part M (append).
-/
import Derived.Test.YtjocfknaojbemaaVIOpG
import Derived.Test.YtjocfknaojbemaaVIOpK
namespace Go.VI

variable {P : Program} {E : Env} {C : Cx} {a : Act} {ρ : Operand → A}

theorem roomy_le {n b : Nat} (h : roomy n b = true) : n * b ≤ 140737488355328 := Nat.le_of_ble_eq_true h

theorem zero_cells {e : TypeId} {ie : TI} {cs : List A} (hie : tiOf P e = some ie) (hz : ie.zero.full = some cs) : ∃ ii z, P.info? e = some ii ∧ ii.zero = some z ∧ ii.size = ie.size ∧ ii.bytes = ie.bytes ∧ z.cells.size = cs.length ∧ ∀ i, i < z.cells.size → oneC (z.cells.getD i undef) := by
  obtain ⟨ii, d, h1, h2, _, h4, _, h5, h6⟩ := tiOf_some hie
  cases hzz : ii.zero with
  | none => rw [hzz] at h6; rw [h6] at hz; cases hz
  | some z =>
    rw [hzz] at h6
    simp only at h6
    rw [h6] at hz
    let C0 : Cx := { w := { heap := #[], os := default, tape := default, drawn := 0, output := default }, H := ⟨0, []⟩, ρ := fun _ => none, η := fun _ => none, hid := fun _ => False }
    have hv := full_VRs (ofConst_VR C0 z) hz
    exact ⟨ii, z, h1, hzz, h4.symm, h5.symm, by simpa using hv.1, fun i hi => by
      have := hv.2.2 i (by have := hv.1; simp at this; omega)
      rw [toList_getD] at this
      exact this⟩

theorem run_append_zero {t u ty e : TypeId} {du : TypeDesc} {ii : TypeInfo} {ad : Option Addr} {sLen sCap : Nat} {x : Value} {w : World} (ht : P.underlying t = some (.slice e)) (hu : P.underlying u = some du) (hnu : ∀ k, du ≠ .int k) (hi : P.info? e = some ii)
    (hlen : (Builtin.lenOf x).run P w = .ok 0 w) (hfirst : (Builtin.firstCells ii.size 0 x).run P w = .ok #[] w) (hle : sLen ≤ sCap) :
    (Builtin.append_ #[t, u] ty #[.slice ad sLen sCap, x]).run P w = .ok (.slice ad sLen sCap) w := by
  simp only [Builtin.append_, List.getElem?_toArray, List.getElem?_cons_zero, List.getElem?_cons_succ, Sem.run_bind, run_underlying ht, Result.andThen_ok, run_sizeOf hi, run_underlying hu, Sem.run_pure]
  simp only [Sem.run_bind, Result.andThen_ok, Bool.false_eq_true, if_false, hlen, Bool.not_false, if_true, Nat.add_zero]
  rw [Sem.run_ite, if_pos hle]
  simp only [Sem.run_bind, hfirst, Result.andThen_ok]
  cases ad with
  | none => simp [Sem.run_pure]
  | some p => simp [storeCells, Sem.run_pure]

/-- What is appended. -/
structure News (P : Program) (C : Cx) (ty : Ty) (size : Nat) (ys : List ty.den) (v : Value) : Prop where
  get : ∃ news : List Value, news.length = ys.length * size ∧ (∀ w : World, w.heap = C.w.heap → (Builtin.firstCells size ys.length v).run P w = .ok news.toArray w) ∧
      (∀ i j, i < ys.length → j < size → VR C ((enc ty (rd ys i)).getD j .bot) (news.getD (i * size + j) undef)) ∧ ∀ u ∈ news, oneC u
  len : ∀ w : World, (Builtin.lenOf v).run P w = .ok ys.length w

theorem append_exec {o : Oper} {c : Call} {t u : Nat} {v1 v2 : Value} (ho : o.op = .call c) (hc : c.callee = .builtin .append) (hat : c.argTypes.toList = [t, u]) (hvs : c.args.map a.eval = #[v1, v2]) {rv : Value} {w w' : World}
    (h : (Builtin.append_ #[t, u] o.type #[v1, v2]).run P w = .ok rv w') : (execOp a.eval o).run P w = .ok (.value rv) w' := by
  have hatt : c.argTypes = #[t, u] := by apply Array.ext'; simpa using hat
  rw [exec_builtin ho hc, hvs, hatt]
  simp only [builtin, Sem.run_bind, h, Result.andThen_ok, Sem.run_pure]

/-- What appends bring about, of a slice without memory. -/
theorem op_append_nil {o : Oper} {c : Call} {t u e e2 nm : Nat} {y : A} {i j ie : TI} {ty : Ty} {ys : List ty.den} (hR : Rel C) (hn : C.H.next ≤ nm) (hρ : ∀ x, VR C (ρ x) (a.eval x)) (ho : o.op = .call c) (hc : c.callee = .builtin .append)
    (hat : c.argTypes.toList = [t, u]) (hargs : c.args.toList.map ρ = [.nils, y]) (hi : tiOf P t = some i) (hk : i.kind = .slice e) (hj : tiOf P u = some j) (hkj : j.kind = .slice e2) (hie : tiOf P e = some ie) (hsz : ty.size = ie.size) (hb : 0 < ie.bytes)
    (hz : ie.zero.full.map List.length = some ie.size) (hys : elems C.H ty y = some ys) (hroom : roomy ys.length ie.bytes = true) : OutR P a o C (.hsl nm 0 none) (C.H.put nm (.row true ty ys 0)) := by
  obtain ⟨zc, hzc, hzl⟩ := Option.map_eq_some_iff.1 hz
  obtain ⟨ii, z, hii, hiz, his, hib, hzs, hz1⟩ := zero_cells hie hzc
  rw [hzl] at hzs
  obtain ⟨_, d, _, hu, hkd, _⟩ := tiOf_some hi
  rw [hk] at hkd
  have := kindOf_slice hkd
  subst this
  obtain ⟨_, d2, _, hu2, hkd2, _⟩ := tiOf_some hj
  rw [hkj] at hkd2
  have := kindOf_slice hkd2
  subst this
  obtain ⟨v1, v2, hvs, hv1, hv2⟩ := args_two hρ hargs
  cases hv1
  obtain ⟨ad, cap, rfl, hl⟩ := elems_sound hR hv2 hys
  obtain ⟨news, n1, n2, n3, n4⟩ := run_firstCells (P := P) (cap := cap) hsz hl
  have hlen : (Builtin.lenOf (.slice ad ys.length cap)).run P C.w = .ok ys.length C.w := by simp [Builtin.lenOf, Sem.run_pure]
  by_cases hy0 : ys = []
  · subst hy0
    refine nilRow_out hR hn (append_exec ho hc hat hvs ?_)
    have e0 : news = [] := List.eq_nil_of_length_eq_zero (by simpa using n1)
    subst e0
    exact run_append_zero hu hu2 (fun k h => by cases h) hii hlen (by rw [his]; exact n2 C.w rfl) (Nat.le_refl _)
  · have hpos : 0 < ys.length := List.length_pos_iff.2 hy0
    have hrun := run_append_new (P := P) (t := t) (u := u) (ty := o.type) (ad := none) (sLen := 0) (sCap := 0) (n := ys.length) (x := .slice ad ys.length cap) (olds := []) (news := news) (w := C.w) hu hu2 (fun k h => by cases h) hii hiz hlen
      (fun w' hw => by rw [his]; exact n2 w' hw) (fun w' _ => by simp [Builtin.firstCells]) (by omega) (by omega) (by rw [Nat.zero_add, hib]; exact roomy_le hroom)
    have hgr := grownCap_ge C.w (0 + ys.length) 0 e
    generalize grownCap C.w (0 + ys.length) 0 e = gc at hrun hgr
    have e1 : ∀ k, (([] : List Value).toArray ++ news.toArray ++ Builtin.zeroCells z.cells (gc - (0 + ys.length))).getD k undef = (news.toArray ++ Builtin.zeroCells z.cells (gc - (0 + ys.length))).getD k undef := fun k => by simp
    refine row_out (C := C) (c := ([] : List Value).toArray ++ news.toArray ++ Builtin.zeroCells z.cells (gc - (0 + ys.length))) (e := e) (nd := C.w.drawn + 1) (fr := (0, 0)) (cap := gc) (Frz.refl C) hR hn ?_ (by omega) (fun i j hi hj => (?_ : VR C _ _)) ?_ (fun i _ h => by simp at h) ?_
    · simp only [Array.size_append, List.size_toArray, List.length_nil, size_zeroCells, n1, hzs, hsz]
      rw [Nat.sub_mul]
      have := Nat.mul_le_mul_right ie.size hgr
      simp only [Nat.zero_add] at this ⊢
      omega
    · have := concat_row (C := C) (t := ty) (xs := []) (ys := ys) (olds := []) (news := news) (rest := Builtin.zeroCells z.cells (gc - (0 + ys.length))) (by simp) (by rw [n1, hsz]) (fun i j h => absurd h (by simp)) (fun i j h1 h2 => by rw [hsz] at h2 ⊢; exact n3 i j h1 h2) i j (by simpa using hi) hj
      simpa using this
    · exact concat_one (fun v h => by cases h) n4 (zeroCells_one hz1)
    · refine append_exec ho hc hat hvs ?_
      rw [hrun]
      simp

/-- A row of the call's own, grown. -/
def Cx.grow (C : Cx) (n : Nat) (blk : Blk) (w : World) (eta : Option (Nat × Nat)) : Cx where
  w := w
  H := C.H.set n blk
  ρ := C.ρ
  η := fun m => if m = n then eta else C.η m
  hid := C.hid

theorem grow_out {o : Oper} {n g : Nat} {ty : Ty} {xs zs : List ty.den} {w' : World} {eta : Option (Nat × Nat)} {ad : Option Addr} {cap : Nat} (hR : Rel C) (hg : C.H.get n = some (.row true ty xs g))
    (hs : C.w.heap.size ≤ w'.heap.size) (hf : ∀ k, k < C.w.heap.size → (C.η n).map (·.1) ≠ some k → w'.heap[k]? = C.w.heap[k]?) (hos : w'.os = C.w.os) (hta : w'.tape = C.w.tape) (hou : w'.output = C.w.output)
    (he : ∀ b cp, eta = some (b, cp) → (C.η n).map (·.1) = some b ∨ C.w.heap.size ≤ b)
    (hb : Step C (C.grow n (.row true ty zs (g + 1)) w' eta) → BlkR (C.grow n (.row true ty zs (g + 1)) w' eta) n (.row true ty zs (g + 1)))
    (hv : match eta with | none => ad = none ∧ cap = 0 | some (b, cp) => ad = some ⟨b, 0, none⟩ ∧ cap = cp) (hcap : zs.length ≤ cap)
    (hr : (execOp a.eval o).run P C.w = .ok (.value (.slice ad zs.length cap)) w') : OutR P a o C (.hsl n (g + 1) none) (C.H.set n (.row true ty zs (g + 1))) := by
  have hU : Upd C (C.grow n (.row true ty zs (g + 1)) w' eta) n (.row true ty xs g) (.row true ty zs (g + 1)) := {
    get := hg, rw := rfl, H := rfl, ρ := rfl
    η := fun m hm => by simp [Cx.grow, hm]
    size := hs
    frame := fun k hk hne => hf k hk hne
    own := fun k hk => by
      have hk : (if n = n then eta else C.η n).map (·.1) = some k := hk
      rw [if_pos rfl] at hk
      cases eta with
      | none => cases hk
      | some p =>
        obtain ⟨b, cp⟩ := p
        cases hk
        exact he b cp rfl
    gen := fun g' hg' => by cases hg'; exact ⟨g, rfl, by omega, fun h => by omega⟩
    hid := rfl, free := fun k hk => (hR.hid k hk).2 _ _ hg
    os := hos, tape := hta, output := hou }
  have hnx : n < C.H.next := by
    rcases Nat.lt_or_ge n C.H.next with h | h
    · exact h
    · rw [(hR.names n h).1] at hg; cases hg
  refine ⟨C.grow n (.row true ty zs (g + 1)) w' eta, _, _, rfl, hr, .inl rfl, .hsl _ _ _ _ _ _ hnx hcap (fun blk g' hb' hg' => ?_) (fun blk hb' hg' => ?_), hU.rel hR (hb hU.step), hU.step⟩
  · rw [hU.got, if_pos rfl] at hb'
    cases hb'; cases hg'
    exact Nat.le_refl _
  · rw [hU.got, if_pos rfl] at hb'
    cases hb'
    refine ⟨rfl, ?_⟩
    show match (if n = n then eta else C.η n) with | none => _ | some (b, cp) => _
    rw [if_pos rfl]
    exact hv

theorem op_append_row {o : Oper} {c : Call} {t u e e2 n g : Nat} {y : A} {i j ie : TI} {ty : Ty} {xs ys : List ty.den} (hR : Rel C) (hρ : ∀ x, VR C (ρ x) (a.eval x)) (ho : o.op = .call c) (hc : c.callee = .builtin .append)
    (hat : c.argTypes.toList = [t, u]) (hargs : c.args.toList.map ρ = [.hsl n g none, y]) (hg : C.H.get n = some (.row true ty xs g)) (hi : tiOf P t = some i) (hk : i.kind = .slice e) (hj : tiOf P u = some j) (hkj : j.kind = .slice e2) (hie : tiOf P e = some ie) (hsz : ty.size = ie.size) (hb : 0 < ie.bytes)
    (hz : ie.zero.full.map List.length = some ie.size) (hys : elems C.H ty y = some ys) (hroom : roomy (xs.length + ys.length) ie.bytes = true) : OutR P a o C (.hsl n (g + 1) none) (C.H.set n (.row true ty (xs ++ ys) (g + 1))) := by
  obtain ⟨zc, hzc, hzl⟩ := Option.map_eq_some_iff.1 hz
  obtain ⟨ii, z, hii, hiz, his, hib, hzs, hz1⟩ := zero_cells hie hzc
  rw [hzl] at hzs
  obtain ⟨_, d, _, hu, hkd, _⟩ := tiOf_some hi
  rw [hk] at hkd
  have := kindOf_slice hkd
  subst this
  obtain ⟨_, d2, _, hu2, hkd2, _⟩ := tiOf_some hj
  rw [hkj] at hkd2
  have := kindOf_slice hkd2
  subst this
  obtain ⟨v1, v2, hvs, hv1, hv2⟩ := args_two hρ hargs
  obtain ⟨ad2, cap2, rfl, hl⟩ := elems_sound hR hv2 hys
  obtain ⟨news, n1, n2, n3, n4⟩ := run_firstCells (P := P) (cap := cap2) hsz hl
  have hlen : (Builtin.lenOf (.slice ad2 ys.length cap2)).run P C.w = .ok ys.length C.w := by simp [Builtin.lenOf, Sem.run_pure]
  obtain ⟨ad, len, cap, rfl⟩ : ∃ ad len cap, v1 = .slice ad len cap := by cases hv1; exact ⟨_, _, _, rfl⟩
  have hlx := (hsl_lies hR hg hv1)
  obtain ⟨hlen1, hlies1⟩ := hlx
  have hlen1 : len = xs.length := hlen1
  subst hlen1
  have hlies1 : Lies C ty xs ad := hlies1
  cases hv1 with
  | hsl _ _ _ _ _ _ hnx hcap hle hh =>
  obtain ⟨-, hη⟩ := hh _ hg rfl
  simp only at hη
  by_cases hy0 : ys = []
  · subst hy0
    have e0 : news = [] := List.eq_nil_of_length_eq_zero (by simpa using n1)
    subst e0
    have hrun := append_exec (P := P) (w := C.w) ho hc hat hvs (run_append_zero (ad := ad) (ty := o.type) hu hu2 (fun k h => by cases h) hii hlen (by rw [his]; exact n2 C.w rfl) hcap)
    refine grow_out (w' := C.w) (eta := C.η n) hR hg (Nat.le_refl _) (fun _ _ _ => rfl) rfl rfl rfl (fun b cp h => by rw [h]; exact .inl rfl) (fun hst => ?_) hη (by simpa using hcap) (by simpa using hrun)
    have hbk := (hR.blocks n _ hg).keep hst.toStepV (by simp [Cx.grow]) fun _ _ _ h => h
    rcases hbk with ⟨h1, h2⟩ | ⟨b, cp, c1, e1, fr, h1, h2, h3, h4, h5, h6, h7⟩
    · exact .inl ⟨h1, by simpa using h2⟩
    · exact .inr ⟨b, cp, c1, e1, fr, h1, h2, h3, h4, by simpa using h5, fun i j hi hj => by simpa using h6 i j (by simpa using hi) hj, h7⟩
  · have hpos : 0 < ys.length := List.length_pos_iff.2 hy0
    by_cases hfit : xs.length + ys.length ≤ cap
    · -- there is room
      rcases hR.blocks n _ hg with ⟨h1, _⟩ | ⟨b, cp, c1, e1, fr, h1, h2, h3, h4, h5, h6, h7⟩
      · rw [h1] at hη
        simp only at hη
        omega
      · rw [h1] at hη
        simp only at hη
        obtain ⟨rfl, rfl⟩ := hη
        have hmul := Nat.mul_le_mul_right ty.size hfit
        rw [Nat.add_mul] at hmul
        have hrun := append_exec (P := P) (w := C.w) ho hc hat hvs (run_append_fit (ty := o.type) hu hu2 (fun k h => by cases h) hii hlen (by rw [his]; exact n2 C.w rfl) (by rw [n1, his]) n4 hfit h2 h3 (by rw [his, ← hsz]; exact h4))
        rw [his, ← hsz] at hrun
        have hnl : news.length = ys.length * ty.size := by rw [n1, hsz]
        refine grow_out (w' := putRow C.w b (spliceV c1 (xs.length * ty.size) news) e1 fr) (eta := some (b, cap)) hR hg (by simp [putRow]) (fun k hk hne => ?_) rfl rfl rfl (fun b' cp' h => by cases h; rw [h1]; exact .inl rfl) (fun hst => ?_) ⟨rfl, rfl⟩ (by simpa using hfit) (by simpa using hrun)
        · rw [putRow_get (heap_lt h2), if_neg (fun h => hne (by rw [h1, h]; rfl))]
        · refine .inr ⟨b, cap, spliceV c1 (xs.length * ty.size) news, e1, fr, by simp [Cx.grow], ?_, by rw [spliceV_size]; exact h3, by rw [spliceV_size]; exact h4, by simpa using hfit, fun i j hi hj => ?_, fun i hi => ?_⟩
          · show (putRow C.w b _ e1 fr).heap[b]? = _
            rw [putRow_get (heap_lt h2), if_pos rfl]
          · rw [List.length_append] at hi
            rw [rd_append, spliceV_getD _ _ _ (by omega)]
            by_cases hx : i < xs.length
            · have := mul_lt_row hx hj
              rw [if_pos hx, if_neg (by omega)]
              exact (h6 i j hx hj).keep hst
            · have k3 : (i - xs.length) * ty.size = i * ty.size - xs.length * ty.size := Nat.sub_mul _ _ _
              have k4 : xs.length * ty.size ≤ i * ty.size := Nat.mul_le_mul_right _ (by omega)
              have := mul_lt_row (show i - xs.length < ys.length by omega) hj
              rw [if_neg hx, if_pos (by omega), show i * ty.size + j - xs.length * ty.size = (i - xs.length) * ty.size + j by omega]
              have k5 := n3 (i - xs.length) j (by omega) (by rw [← hsz]; exact hj)
              rw [← hsz] at k5
              exact k5.keep hst
          · rw [spliceV_size] at hi
            rw [spliceV_getD _ _ _ (by omega)]
            by_cases hr : xs.length * ty.size ≤ i ∧ i < xs.length * ty.size + news.length
            · rw [if_pos hr]
              have hlt : i - xs.length * ty.size < news.length := by omega
              have : news.getD (i - xs.length * ty.size) undef ∈ news := by
                rw [List.getD_eq_getElem?_getD, List.getElem?_eq_getElem hlt]
                exact List.getElem_mem hlt
              exact n4 _ this
            · rw [if_neg hr]
              exact h7 i hi
    · -- a new array
      obtain ⟨olds, o1, o2, o3, o4⟩ := run_firstCells (P := P) (cap := cap) hsz hlies1
      have hrun := run_append_new (P := P) (t := t) (u := u) (ty := o.type) (ad := ad) (sLen := xs.length) (sCap := cap) (n := ys.length) (x := .slice ad2 ys.length cap2) (olds := olds) (news := news) (w := C.w) hu hu2 (fun k h => by cases h) hii hiz hlen
        (fun w' hw => by rw [his]; exact n2 w' hw) (fun w' hw => by rw [his]; exact o2 w' hw) (by omega) (by omega) (by rw [hib]; exact roomy_le hroom)
      have hgr := grownCap_ge C.w (xs.length + ys.length) cap e
      generalize grownCap C.w (xs.length + ys.length) cap e = gc at hrun hgr
      have hsize : gc * ty.size ≤ (olds.toArray ++ news.toArray ++ Builtin.zeroCells z.cells (gc - (xs.length + ys.length))).size := by
        simp only [Array.size_append, List.size_toArray, size_zeroCells, n1, o1, hzs, hsz]
        rw [Nat.sub_mul, Nat.add_mul]
        have := Nat.mul_le_mul_right ie.size hgr
        rw [Nat.add_mul] at this
        omega
      refine grow_out (w' := { C.w with heap := C.w.heap.push (.cells (olds.toArray ++ news.toArray ++ Builtin.zeroCells z.cells (gc - (xs.length + ys.length))) e), drawn := C.w.drawn + 1 }) (eta := some (C.w.heap.size, gc)) hR hg (by simp) (fun k hk _ => ?_) rfl rfl rfl (fun b' cp' h => by cases h; exact .inr (Nat.le_refl _)) (fun hst => ?_) ⟨rfl, rfl⟩ (by simpa using hgr) (by simpa using append_exec ho hc hat hvs hrun)
      · simp [Array.getElem?_push, show k ≠ C.w.heap.size by omega]
      · refine .inr ⟨C.w.heap.size, gc, _, e, (0, 0), by simp [Cx.grow], by simp [Cx.grow], fun i _ h => by simp at h, hsize, by simpa using hgr, fun i j hi hj => ?_, ?_⟩
        · have := concat_row (C := C) (t := ty) (xs := xs) (ys := ys) (olds := olds) (news := news) (rest := Builtin.zeroCells z.cells (gc - (xs.length + ys.length))) (by rw [o1, hsz]) (by rw [n1, hsz]) (fun i j h1 h2 => by rw [hsz] at h2 ⊢; exact o3 i j h1 h2) (fun i j h1 h2 => by rw [hsz] at h2 ⊢; exact n3 i j h1 h2) i j hi hj
          exact this.keep hst
        · exact concat_one o4 n4 (zeroCells_one hz1)

theorem op_makeSlice {o : Oper} {t e nm : Nat} {l c : Operand} {i ie : TI} {ty : Ty} {zc : List A} {z : ty.den} {r : List A} {H1 : Heap} {n m : Int} {kn km : IntKind} (hR : Rel C) (hn : C.H.next ≤ nm) (hρ : ∀ x, VR C (ρ x) (a.eval x)) (ho : o.op = .makeSlice t l c) (hi : tiOf P t = some i)
    (hk : i.kind = .slice e) (hie : tiOf P e = some ie) (hz : ie.zero.full = some zc) (hzl : zc.length = ie.size) (hsz : ty.size = ie.size) (h0 : 0 < ie.size) (hb : 0 < ie.bytes) (hd : decH ty noHeap zc = some (z, r, H1))
    (hl : ρ l = .int kn n) (hm : ρ c = .int km m) (hok : (ile 0 n && (ile n m && roomy m.toNat ie.bytes)) = true) : OutR P a o C (.hsl nm 0 none) (C.H.put nm (.row true ty (List.replicate n.toNat z) 0)) := by
  obtain ⟨ii, zv, hii, hiz, his, hib, hzs, hz1⟩ := zero_cells hie hz
  obtain ⟨_, d, _, hu, hkd, _⟩ := tiOf_some hi
  rw [hk] at hkd
  have := kindOf_slice hkd
  subst this
  simp only [Bool.and_eq_true, ile_eq, decide_eq_true_eq] at hok
  obtain ⟨k1, k2, k3⟩ := hok
  have k3 := roomy_le k3
  have hv1 := hρ l
  have hv2 := hρ c
  rw [hl] at hv1
  rw [hm] at hv2
  generalize hal : a.eval l = al at hv1
  generalize hac : a.eval c = ac at hv2
  cases hv1
  cases hv2
  have hmb : m.toNat ≤ 140737488355328 := Nat.le_trans (Nat.le_mul_of_pos_right _ hb) k3
  have hrun := run_make C.w t e ii zv hu hii hiz kn km n m k1 k2 (by
    rw [hib]
    have : ((m.toNat * ie.bytes : Nat) : Int) ≤ 140737488355328 := Int.ofNat_le.2 k3
    rw [Int.mul_comm]
    have hmm : ((m.toNat : Nat) : Int) = m := Int.toNat_of_nonneg (by omega)
    rw [Int.natCast_mul, hmm] at this
    omega) (by omega)
  obtain ⟨-, hv, -, -⟩ := decH_sound ty (C := C) (H1 := C.H) hR (zv2 hie hz hiz hii) ((decH_empty ty hd).2 C.H)
  have hsize : zv.cells.size = ty.size := by rw [hzs, hzl, hsz]
  have hcell : ∀ k j, k < m.toNat → j < ty.size → (madeCells zv.cells (m.toNat * ii.size)).getD (k * ty.size + j) undef = zv.cells.getD j undef := fun k j hk hj => by
    have h1 := mul_lt_row hk hj
    have h2 : k * ty.size + j < m.toNat * ii.size := by rw [his, ← hsz]; exact h1
    have h3 : (k * ty.size + j) % ty.size = j := by rw [Nat.mul_comm, Nat.mul_add_mod, Nat.mod_eq_of_lt hj]
    have hj' : j < zv.cells.size := by omega
    have h4 : (madeCells zv.cells (m.toNat * ii.size))[k * ty.size + j]? = some (zv.cells[(k * ty.size + j) % zv.cells.size]!) := by
      simp [madeCells, h2]
    rw [Array.getD_eq_getD_getElem?, h4, hsize, h3]
    simp [getElem!_pos, hj']
  refine row_out (C := C) (c := madeCells zv.cells (m.toNat * ii.size)) (e := e) (nd := C.w.drawn) (fr := (0, 0)) (cap := m.toNat) (Frz.refl C) hR hn (by rw [size_madeCells, his, hsz]; exact Nat.le_refl _) (by rw [List.length_replicate]; omega) (fun k j hk hj => (?_ : VR C _ _)) (fun k hk => ?_) (fun i _ h => by simp at h) ?_
  · simp only [List.length_replicate] at hk
    rw [hcell k j (by omega) hj]
    have e1 : rd (List.replicate n.toNat z) k = z := by simp [rd, hk]
    rw [e1]
    have := hv.2.1 j (by rw [enc_length]; exact hj)
    rw [getD_take _ _ _ _ hj, toList_getD] at this
    exact this
  · rw [size_madeCells] at hk
    have hpos : 0 < zv.cells.size := by omega
    have hlt := Nat.mod_lt k hpos
    have := hz1 _ hlt
    simp only [madeCells, Array.getD_eq_getD_getElem?] at this ⊢
    simp only [hlt, Array.getElem?_eq_getElem, Option.getD_some] at this
    simp [hk, hlt, this]
  · simp only [execOp, ho, hal, hac, Sem.run_bind, hrun, Result.andThen_ok, Sem.run_pure, List.length_replicate]
    rfl
where
  zv2 {e : TypeId} {ie : TI} {zc : List A} {ii : TypeInfo} {zv : Value} {C : Cx} (hie : tiOf P e = some ie) (hz : ie.zero.full = some zc) (hiz : ii.zero = some zv) (hii : P.info? e = some ii) : VRs C zc zv.cells.toList := by
    obtain ⟨ii', d, h1, h2, _, _, _, _, h6⟩ := tiOf_some hie
    rw [hii] at h1
    cases h1
    rw [hiz] at h6
    simp only at h6
    rw [h6] at hz
    exact full_VRs (ofConst_VR C zv) hz

end Go.VI
