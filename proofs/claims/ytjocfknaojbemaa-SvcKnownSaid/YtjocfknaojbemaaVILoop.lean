/-
  Loops whose rounds begin with a few slots and blocks alone, under names of their own.
-/
import Derived.Test.YtjocfknaojbemaaVILocal
namespace Go.VI

variable {P : Program} {E : Env} {R : Type}

/-- A value at a round's start: names of the loop's entry stay; the pointers that are kept have new names; what else there is, is left out. -/
def renB (b : Nat) (ts : List Nat) : A → Option A
  | .ptr n o => match idxN ts n with
    | some j => some (.ptr (b + j) o)
    | none => if Nat.ble (n + 1) b then some (.ptr n o) else none
  | .hsl n g s => if Nat.ble (n + 1) b then some (.hsl n g s) else none
  | .map n => match idxN ts n with
    | some _ => none
    | none => if Nat.ble (n + 1) b then some (.map n) else none
  | a => if pureA a then some a else none

/-- The names behind some slots. -/
def ptrsOf (tm : Fr) : List Nat → Option (List Nat)
  | [] => some []
  | s :: r => match tm.get s, ptrsOf tm r with
    | .ptr n 0, some l => match idxN l n with
      | none => some (n :: l)
      | some _ => none
    | _, _ => none
/-- The slots that are kept. -/
def keepF (b : Nat) (ts : List Nat) (tm : Fr) : List Nat → Fr
  | [] => []
  | s :: r => match renB b ts (tm.get s) with
    | some v => (s, v) :: keepF b ts tm r
    | none => keepF b ts tm r
/-- The blocks that are kept, under their new names. -/
def keepH (b : Nat) : Nat → List Nat → Heap → Option (List (Nat × Blk))
  | _, [], _ => some []
  | i, n :: r, H => match H.get n with
    | some (.cells true cs) => if pureL cs then (match keepH b (i + 1) r H with
      | some l => some ((b + i, .cells true cs) :: l)
      | none => none) else none
    | _ => none
/-- Blocks of the loop's entry: those that hold no memory of their own, and have not been kept under a new name. -/
def pureB : Blk → Bool
  | .cells _ cs => pureL cs
  | .row _ _ _ _ => true
  | .tmap _ _ _ _ _ _ => true
  | _ => false
def oldH (b : Nat) (ts : List Nat) (H : Heap) : Nat → List (Nat × Blk)
  | 0 => []
  | n + 1 => match idxN ts n, H.get n with
    | none, some blk => if pureB blk then (n, blk) :: oldH b ts H n else oldH b ts H n
    | _, _ => oldH b ts H n

/-- A round's start. 'live': the slots that are kept; 'own': those among them whose blocks are kept. -/
def normS (live own : List Nat) (b : Nat) (tm : Fr) (H : Heap) : Option (Fr × Heap) := match ptrsOf tm own with
  | none => none
  | some ts => match keepH b 0 ts H with
    | none => none
    | some l => some (keepF b ts tm live, ⟨b + ts.length, l ++ oldH b ts H b⟩)

/-- The loop. -/
def normLoop (E : Env) (call : CallK R) (loops : Code → Option (LoopK R)) (u : Nat) (live own : List Nat) (body : Code) (v : Nat) : LoopK R := fun tm H K =>
  Nat.rec (motive := fun _ => Fr → Heap → Option R) (fun _ _ => none)
    (fun _ ih tm H1 => match normS live own H.next tm H1 with
      | none => none
      | some (tm1, H2) => viC E call loops u body tm1 H2 (fun e tm2 H3 => match e with
        | .norm => ih tm2 H3
        | e => K e tm2 H3)) v tm H

theorem ptrsOf_spec {tm : Fr} : ∀ {l ts : List Nat}, ptrsOf tm l = some ts → ts.Nodup
  | [], _, h => by cases h; exact List.nodup_nil
  | s :: r, ts, h => by
    simp only [ptrsOf] at h
    split at h
    · rename_i n l _ hl
      split at h
      · rename_i hx
        cases h
        refine List.nodup_cons.2 ⟨fun hm => ?_, ptrsOf_spec hl⟩
        exact idxN_mem hm hx
      · cases h
    · cases h
where
  idxN_mem {l : List Nat} {n : Nat} (hm : n ∈ l) (h : idxN l n = none) : False := by
    induction l with
    | nil => cases hm
    | cons m l ih =>
      simp only [idxN] at h
      cases hb : Nat.beq m n with
      | true => rw [hb] at h; cases h
      | false =>
        rw [hb] at h
        simp only [cond_false] at h
        rcases List.mem_cons.1 hm with rfl | hm
        · simp at hb
        · split at h
          · cases h
          · rename_i h'; exact ih hm h'

theorem idxN_none {l : List Nat} {n : Nat} (h : idxN l n = none) : n ∉ l := fun hm => ptrsOf_spec.idxN_mem hm h

theorem keepH_spec {b : Nat} {H : Heap} : ∀ {ts : List Nat} {i : Nat} {l : List (Nat × Blk)}, keepH b i ts H = some l →
    (∀ j n, ts[j]? = some n → ∃ cs, H.get n = some (.cells true cs) ∧ pureL cs = true ∧ luk l (b + i + j) = some (.cells true cs)) ∧ ∀ t x, luk l t = some x → b + i ≤ t ∧ ∃ n, ts[t - (b + i)]? = some n
  | [], i, l, h => by
    cases h
    exact ⟨fun j n h => by simp at h, fun t b h => by cases h⟩
  | n :: r, i, l, h => by
    simp only [keepH] at h
    split at h
    · rename_i cs hg
      split at h
      · rename_i hp
        split at h
        · rename_i l' hl
          cases h
          obtain ⟨h1, h2⟩ := keepH_spec hl
          refine ⟨fun j m hj => ?_, fun t x ht => ?_⟩
          · cases j with
            | zero =>
              simp at hj
              subst hj
              exact ⟨cs, hg, hp, by rw [luk_cons, if_pos (by omega)]⟩
            | succ j =>
              obtain ⟨cs', k1, k2, k3⟩ := h1 j m (by simpa using hj)
              refine ⟨cs', k1, k2, ?_⟩
              rw [luk_cons, if_neg (by omega), show b + i + (j + 1) = b + (i + 1) + j by omega]
              exact k3
          · rw [luk_cons] at ht
            split at ht
            · rename_i he
              subst he
              exact ⟨Nat.le_refl _, n, by simp⟩
            · obtain ⟨h3, m, h4⟩ := h2 t x ht
              refine ⟨by omega, m, ?_⟩
              rw [show t - (b + i) = (t - (b + (i + 1))) + 1 by omega]
              simpa using h4
        · cases h
      · cases h
    · cases h

theorem oldH_spec {b : Nat} {ts : List Nat} {H : Heap} : ∀ {n t : Nat} {x : Blk}, luk (oldH b ts H n) t = some x → t < n ∧ idxN ts t = none ∧ H.get t = some x ∧ pureB x = true
  | 0, _, _, h => by cases h
  | n + 1, t, x, h => by
    simp only [oldH] at h
    have rest : luk (oldH b ts H n) t = some x → t < n + 1 ∧ idxN ts t = none ∧ H.get t = some x ∧ pureB x = true := fun h => by
      obtain ⟨h1, h2⟩ := oldH_spec h
      exact ⟨by omega, h2⟩
    split at h
    · rename_i blk hi hg
      split at h
      · rename_i hp
        rw [luk_cons] at h
        split at h
        · rename_i he
          subst he
          cases h
          exact ⟨by omega, hi, hg, hp⟩
        · exact rest h
      · exact rest h
    · exact rest h

theorem luk_append {α : Type} : ∀ (l m : List (Nat × α)) (n : Nat), luk (l ++ m) n = match luk l n with | some x => some x | none => luk m n
  | [], m, n => rfl
  | (k, v) :: r, m, n => by
    rw [List.cons_append, luk_cons, luk_cons]
    split
    · rfl
    · exact luk_append r m n

/-- The world, as a round sees it at its start. -/
def Cx.round (C : Cx) (b : Nat) (ts : List Nat) (H : Heap) : Cx where
  w := C.w
  H := H
  ρ := fun n => if n < b then C.ρ n else (ts[n - b]?).bind C.ρ
  η := fun n => if n < b then C.η n else none
  hid := C.hid

theorem normS_sound {C0 C : Cx} {tm tm1 : Fr} {a : Act} {H1 : Heap} {live own : List Nat} (hs : Step C0 C) (hR : Rel C) (hf : FR C tm a) (h : normS live own C0.H.next tm C.H = some (tm1, H1)) (hR0 : Rel C0) :
    ∃ C1 : Cx, C1.H = H1 ∧ C1.w = C.w ∧ Rel C1 ∧ FR C1 tm1 a ∧ Step C0 C1 := by
  unfold normS at h
  split at h
  · cases h
  rename_i ts hts
  split at h
  · cases h
  rename_i l hl
  simp only [Option.some.injEq, Prod.mk.injEq] at h
  obtain ⟨rfl, rfl⟩ := h
  generalize hb : C0.H.next = b at *
  have hnd := ptrsOf_spec hts
  obtain ⟨k1, k2⟩ := keepH_spec hl
  have hnext : b ≤ C.H.next := by rw [← hb]; exact hs.next
  let D : Cx := C.round b ts ⟨b + ts.length, l ++ oldH b ts C.H b⟩
  -- a block of the round: kept, or old
  have hget : ∀ n x, D.H.get n = some x → (b ≤ n ∧ ∃ m cs, ts[n - b]? = some m ∧ C.H.get m = some (.cells true cs) ∧ pureL cs = true ∧ x = .cells true cs) ∨ (n < b ∧ idxN ts n = none ∧ C.H.get n = some x ∧ pureB x = true) := fun n x hx => by
    have hx : luk (l ++ oldH b ts C.H b) n = some x := hx
    rw [luk_append] at hx
    split at hx
    · rename_i y hy
      cases hx
      obtain ⟨h1, m, h2⟩ := k2 n _ hy
      rw [Nat.add_zero] at h1 h2
      obtain ⟨cs, h3, h4, h5⟩ := k1 _ m h2
      rw [Nat.add_zero, show b + (n - b) = n by omega, hy] at h5
      cases h5
      exact .inl ⟨h1, m, cs, h2, h3, h4, rfl⟩
    · exact .inr (oldH_spec hx)
  have hkept : ∀ j m, ts[j]? = some m → ∃ cs bb, C.H.get m = some (.cells true cs) ∧ pureL cs = true ∧ D.H.get (b + j) = some (.cells true cs) ∧ C.ρ m = some bb ∧ D.ρ (b + j) = some bb := fun j m hj => by
    obtain ⟨cs, h1, h2, h3⟩ := k1 j m hj
    obtain ⟨bb, c, e, fr, h4, _⟩ := hR.blocks m _ h1
    refine ⟨cs, bb, h1, h2, ?_, h4, ?_⟩
    · show luk (l ++ _) (b + j) = _
      rw [luk_append, show luk l (b + j) = some (.cells true cs) from by rw [Nat.add_zero] at h3; exact h3]
    · show (if b + j < b then _ else (ts[b + j - b]?).bind C.ρ) = _
      rw [if_neg (by omega), show b + j - b = j by omega, hj]
      exact h4
  have hbo : ∀ n x b', D.H.get n = some x → blockOf D n x = some b' → ∃ m y, C.H.get m = some y ∧ blockOf C m y = some b' ∧ rwOf y = rwOf x ∧ ((b ≤ n ∧ ts[n - b]? = some m) ∨ (n < b ∧ m = n ∧ idxN ts n = none)) := fun n x b' hx h => by
    rcases hget n x hx with ⟨h1, m, cs, h2, h3, h4, rfl⟩ | ⟨h1, h2, h3, h4⟩
    · have h : (if n < b then C.ρ n else (ts[n - b]?).bind C.ρ) = some b' := h
      rw [if_neg (by omega), h2] at h
      exact ⟨m, _, h3, h, rfl, .inl ⟨h1, h2⟩⟩
    · refine ⟨n, x, h3, ?_, rfl, .inr ⟨h1, rfl, h2⟩⟩
      rw [← h]
      cases x <;> simp [blockOf, D, Cx.round, h1]
  have hown : ∀ b', D.own b' → C.own b' := fun b' hb' => by
    rcases hb' with hb' | ⟨n, x, hx, hr, h⟩
    · exact .inl hb'
    · obtain ⟨m, y, h1, h2, h3, _⟩ := hbo n x b' hx h
      exact .inr ⟨m, y, h1, h3.trans hr, h2⟩
  have hsame : Same C D := fun b' _ ho => ⟨rfl, fun h => ho (hown b' h)⟩
  have hblkold : ∀ n x, n < b → C.H.get n = some x → pureB x = true → D.H.get n = some x → BlkR D n x := fun n x hn hx hp hD => by
    have := hR.blocks n x hx
    have eρ : D.ρ n = C.ρ n := by show (if n < b then _ else _) = _; rw [if_pos hn]
    have eη : D.η n = C.η n := by show (if n < b then _ else _) = _; rw [if_pos hn]
    cases x with
    | cells rw cs =>
      obtain ⟨b', c, e, fr, h1, h2, h3, h4⟩ := this
      exact ⟨b', c, e, fr, eρ.trans h1, h2, ⟨h3.1, fun i hi => (h3.2.1 i hi).shift hsame (pureL_get hp i hi), h3.2.2⟩, h4⟩
    | row rw t xs g =>
      rcases this with ⟨h1, h2⟩ | ⟨b', cap, c, e, fr, h1, h2, h3, h4, h5, h6, h7⟩
      · exact .inl ⟨eη.trans h1, h2⟩
      · exact .inr ⟨b', cap, c, e, fr, eη.trans h1, h2, h3, h4, h5, fun i j hi hj => (h6 i j hi hj).shift hsame (pureL_get (VR.shift.pure_enc t (rd xs i)) j (by rw [enc_length]; exact hj)), h7⟩
    | tmap rw ka va κ ν es =>
      obtain ⟨b', me, cl, h1, h2, ⟨⟨ll, p1, p2, p3⟩, p4, p5⟩, h4⟩ := this
      refine ⟨b', me, cl, eρ.trans h1, h2, ⟨⟨ll, p1, p2, fun i hi => ?_⟩, p4, p5⟩, h4⟩
      have hmem : ll.getD i ([], []) ∈ es.map fun e => (enc κ e.1, enc ν e.2) := by
        refine p1.mem_iff.1 ?_
        rw [List.getD_eq_getElem?_getD, List.getElem?_eq_getElem (by omega)]
        exact List.getElem_mem _
      obtain ⟨e, _, he⟩ := List.mem_map.1 hmem
      obtain ⟨q1, q2⟩ := p3 i hi
      rw [← he] at q1 q2 ⊢
      exact ⟨⟨⟨q1.1.1, fun j hj => (q1.1.2.1 j hj).shift hsame (pureL_get (VR.shift.pure_enc κ e.1) j hj), q1.1.2.2⟩, q1.2⟩, ⟨⟨q2.1.1, fun j hj => (q2.1.2.1 j hj).shift hsame (pureL_get (VR.shift.pure_enc ν e.2) j hj), q2.1.2.2⟩, q2.2⟩⟩
    | _ => cases hp
  refine ⟨D, rfl, rfl, ?_, ?_, ?_⟩
  · exact {
      names := fun n hn => by
        have hn : b + ts.length ≤ n := hn
        refine ⟨?_, ?_⟩
        · cases hx : D.H.get n with
          | none => rfl
          | some x =>
            rcases hget n x hx with ⟨h1, m, cs, h2, _⟩ | ⟨h1, _⟩
            · have := (List.getElem?_eq_some_iff.1 h2).1
              omega
            · omega
        · show (if n < b then C.ρ n else (ts[n - b]?).bind C.ρ) = none
          rw [if_neg (by omega), List.getElem?_eq_none (by omega)]
          rfl
      blocks := fun n x hx => by
        rcases hget n x hx with ⟨h1, m, cs, h2, h3, h4, rfl⟩ | ⟨h1, h2, h3, h4⟩
        · obtain ⟨b', c, e, fr, m1, m2, m3, m4⟩ := hR.blocks m _ h3
          refine ⟨b', c, e, fr, ?_, m2, ⟨m3.1, fun i hi => (m3.2.1 i hi).shift hsame (pureL_get h4 i hi), m3.2.2⟩, m4⟩
          show (if n < b then C.ρ n else (ts[n - b]?).bind C.ρ) = some b'
          rw [if_neg (by omega), h2]
          exact m1
        · exact hblkold n x h1 h3 h4 hx
      dist := fun i j x y b' hx hy hr h1 h2 => by
        obtain ⟨m, x', p1, p2, p3, p4⟩ := hbo i x b' hx h1
        obtain ⟨m', y', q1, q2, q3, q4⟩ := hbo j y b' hy h2
        have hm := hR.dist m m' x' y' b' p1 q1 (p3.trans hr) p2 q2
        subst hm
        rcases p4 with ⟨p4, p5⟩ | ⟨p4, p5, p6⟩ <;> rcases q4 with ⟨q4, q5⟩ | ⟨q4, q5, q6⟩
        · obtain ⟨hi1, hi2⟩ := List.getElem?_eq_some_iff.1 p5
          obtain ⟨hj1, hj2⟩ := List.getElem?_eq_some_iff.1 q5
          have := (List.getElem_inj hnd).1 (hi2.trans hj2.symm)
          omega
        · exact absurd (List.mem_of_getElem? p5) (by rw [q5]; exact idxN_none q6)
        · exact absurd (List.mem_of_getElem? q5) (by rw [p5]; exact idxN_none p6)
        · exact p5.symm.trans q5
      hid := fun b' hb' => ⟨(hR.hid b' hb').1, fun n x hx h => by
        obtain ⟨m, y, h1, h2, _⟩ := hbo n x b' hx h
        exact (hR.hid b' hb').2 m y h1 h2⟩ }
  · -- slots
    intro t v ht
    have key : ∀ (ll : List Nat), luk (keepF b ts tm ll) t = some v → renB b ts (tm.get t) = some v := by
      intro ll
      induction ll with
      | nil => intro h; cases h
      | cons s r ih =>
        intro h
        simp only [keepF] at h
        split at h
        · rename_i v' hv'
          rw [luk_cons] at h
          split at h
          · rename_i he
            subst he
            cases h
            exact hv'
          · exact ih h
        · exact ih h
    have hren := key live ht
    have hv := hf.get t
    generalize htg : tm.get t = x at hren hv
    generalize a.tmps.getD t undef = cv at hv
    unfold renB at hren
    split at hren
    · rename_i n o
      split at hren
      · rename_i j hj
        cases hren
        cases hv with
        | ptr _ _ b' hb' =>
          obtain ⟨cs, bb, _, _, _, h4, h5⟩ := hkept j n (idxN_get hj)
          rw [hb'] at h4
          cases h4
          exact .ptr _ _ _ h5
      · split at hren
        · rename_i hlt
          have hlt := Nat.le_of_ble_eq_true hlt
          cases hren
          cases hv with
          | ptr _ _ b' hb' =>
            refine .ptr _ _ b' ?_
            show (if n < b then _ else _) = _
            rw [if_pos (by omega)]; exact hb'
        · cases hren
    · rename_i n g s
      split at hren
      · rename_i hlt
        have hlt := Nat.le_of_ble_eq_true hlt
        cases hren
        cases hv with
        | hsl _ _ _ ad len cap hn hcap hle hh =>
          refine .hsl _ _ _ _ _ _ (by show n < b + ts.length; omega) hcap (fun blk g' hb' hg' => ?_) (fun blk hb' hg' => ?_)
          · rcases hget n blk hb' with ⟨h1, _⟩ | ⟨_, _, h3, _⟩
            · omega
            · exact hle blk g' h3 hg'
          · rcases hget n blk hb' with ⟨h1, _⟩ | ⟨_, _, h3, _⟩
            · omega
            · have := hh blk h3 hg'
              have eη : D.η n = C.η n := by show (if n < b then _ else _) = _; rw [if_pos (by omega)]
              rw [eη]
              exact this
      · cases hren
    · rename_i n
      split at hren
      · cases hren
      · split at hren
        · rename_i hlt
          have hlt := Nat.le_of_ble_eq_true hlt
          cases hren
          cases hv with
          | map _ b' hb' =>
            refine .map _ b' ?_
            show (if n < b then _ else _) = _
            rw [if_pos (by omega)]; exact hb'
        · cases hren
    · split at hren
      · rename_i hp
        cases hren
        exact hv.shift hsame hp
      · cases hren
  · exact {
      next := by show C0.H.next ≤ b + ts.length; omega
      ρ := fun n b' h => by
        have hn : n < b := by
          rcases Nat.lt_or_ge n b with h' | h'
          · exact h'
          · rw [(hR0.names n (by rw [hb]; exact h')).2] at h; cases h
        show (if n < b then _ else _) = _
        rw [if_pos hn]; exact hs.ρ n b' h
      rows := fun n x g hlt hx hg => by
        rw [hb] at hlt
        rcases hget n x hx with ⟨h1, _⟩ | ⟨_, _, h3, _⟩
        · omega
        · obtain ⟨blk, g0, q1, q2, q3, q4⟩ := hs.rows n x g (by rw [hb]; exact hlt) h3 hg
          refine ⟨blk, g0, q1, q2, q3, fun he => ?_⟩
          obtain ⟨r1, r2, r3⟩ := q4 he
          refine ⟨r1, r2, ?_⟩
          show (if n < b then _ else _) = _
          rw [if_pos hlt]; exact r3
      size := hs.size
      frame := hs.frame
      own := fun b' hb' => hs.own b' (hown b' hb')
      hid := hs.hid
      dead := fun n hlt hg => by
        rw [hb] at hlt
        obtain ⟨h1, h2⟩ := hs.dead n (by rw [hb]; exact hlt) hg
        refine ⟨?_, ?_⟩
        · cases hx : D.H.get n with
          | none => rfl
          | some x =>
            rcases hget n x hx with ⟨h3, _⟩ | ⟨_, _, h3, _⟩
            · omega
            · rw [h1] at h3; cases h3
        · show (if n < b then _ else _) = _
          rw [if_pos hlt]; exact h2
      hframe := hs.hframe
      os := hs.os, tape := hs.tape, output := hs.output }

theorem normLoop_ok {n u : Nat} {call : CallK R} {loops : Code → Option (LoopK R)} {live own : List Nat} {body : Code} {v : Nat} (hE : EnvOk P E) (hc : CallSound P call) (hl : ∀ b ∈ loopsIn body, ∀ l, loops b = some l → LoopOk P n b l) (hw : wfC n body = true) :
    LoopOk P n body (normLoop E call loops u live own body v) := by
  intro tm C a K r Q hs hR hf h hQ
  refine wp_loop_rounds v ?_
  unfold normLoop at h
  have key : ∀ (v : Nat) (tm : Fr) (C' : Cx) (a' : Act), Step C C' → a'.tmps.size = n → a'.defers = a.defers → Rel C' → FR C' tm a' →
      Nat.rec (motive := fun _ => Fr → Heap → Option R) (fun _ _ => none) (fun _ ih tm H1 => match normS live own C.H.next tm H1 with
      | none => none
      | some (tm1, H2) => viC E call loops u body tm1 H2 (fun e tm2 H3 => match e with
        | .norm => ih tm2 H3
        | e => K e tm2 H3)) v tm C'.H = some r → Code.rounds P body Q v a' C'.w := by
    intro v
    induction v with
    | zero => intro tm C' a' _ _ _ _ _ h; cases h
    | succ v ih =>
      intro tm C' a' hst hs' hd' hR' hf' h
      simp only at h
      split at h
      · cases h
      rename_i tm1 H2 hn
      obtain ⟨C1, e1, e2, hR1, hf1, hst1⟩ := normS_sound hst hR' hf' hn hR
      subst e1
      have goal : Code.rounds P body Q (v + 1) a' C1.w → Code.rounds P body Q (v + 1) a' C'.w := by rw [e2]; exact id
      refine goal ?_
      refine viC_sound hE hc body hl hw hs' hR1 hf1 h fun e C2 a2 tm2 k1 k2 k3 k4 k5 k6 => ?_
      cases e with
      | norm => exact ih tm2 C2 a2 (hst1.trans k1) k4 (k5.trans hd') k2 k3 k6
      | exit id => exact hQ (.exit id) C2 a2 tm2 (hst1.trans k1) k2 k3 k4 (k5.trans hd') k6
      | ret => exact hQ .ret C2 a2 tm2 (hst1.trans k1) k2 k3 k4 (k5.trans hd') k6
  exact key v tm C a (Step.refl C) hs rfl hR hf h

end Go.VI
