/-
  A state under new names: what a few slots reach, and what the entry's names hold; rows begin to count anew.
-/
import Derived.Test.YtjocfknaojbemaaVILoop
namespace Go.VI

variable {P : Program} {E : Env} {R : Type}

/-- Is a name to have a new one? -/
def wantN (b : Nat) (H : Heap) (n : Nat) : Bool := Nat.ble b n || (match H.get n with
  | some (.row rw _ _ _) => rw
  | _ => false)
def addN (n : Nat) (acc : List Nat) : List Nat := match idxN acc n with
  | some _ => acc
  | none => acc ++ [n]
mutual
def namesA : A → List Nat → List Nat
  | .ptr n _, acc => addN n acc
  | .hsl n _ _, acc => addN n acc
  | .rptr n _ _ _, acc => addN n acc
  | .map n, acc => addN n acc
  | .iter n, acc => addN n acc
  | .func _ f c, acc => namesL c (namesL f acc)
  | .iface _ v, acc => namesA v acc
  | .agg cs, acc => namesL cs acc
  | .tup cs, acc => namesL cs acc
  | _, acc => acc
def namesL : List A → List Nat → List Nat
  | [], acc => acc
  | a :: r, acc => namesL r (namesA a acc)
end
def blkCells : Blk → List A
  | .cells _ cs => cs
  | .urow _ _ cs _ => cs
  | _ => []
/-- All names that are reached. -/
def closeN (H : Heap) : Nat → Nat → List Nat → List Nat
  | 0, _, acc => acc
  | f + 1, i, acc => match acc[i]? with
    | none => acc
    | some n => closeN H f (i + 1) (match H.get n with
      | some blk => namesL (blkCells blk) acc
      | none => acc)
def liveN (tm : Fr) : List Nat → List Nat → List Nat
  | [], acc => acc
  | s :: r, acc => liveN tm r (namesA (tm.get s) acc)
/-- Names that have new ones in any case: those that some slots hold. -/
def ownN (tm : Fr) : List Nat → List Nat → List Nat
  | [], acc => acc
  | s :: r, acc => ownN tm r (match tm.get s with
    | .ptr n _ => addN n acc
    | .hsl n _ _ => addN n acc
    | .map n => addN n acc
    | _ => acc)
def pickN (b : Nat) (H : Heap) (os : List Nat) : List Nat → List Nat
  | [] => []
  | n :: r => bif wantN b H n || (idxN os n).isSome then n :: pickN b H os r else pickN b H os r
def nodupB : List Nat → Bool
  | [] => true
  | a :: r => (idxN r a).isNone && nodupB r

mutual
/-- A value under the new names. -/
def renV (b : Nat) (ts : List Nat) (H : Heap) : A → A
  | .ptr n o => match idxN ts n with
    | some j => .ptr (b + j) o
    | none => bif Nat.ble (n + 1) b then .ptr n o else .bot
  | .hsl n g s => match idxN ts n with
    | some j => match H.get n with
      | some blk => match genOf blk with
        | some g' => bif Nat.beq g' g then .hsl (b + j) 0 s else .bot
        | none => .bot
      | none => .bot
    | none => bif Nat.ble (n + 1) b then .hsl n g s else .bot
  | .rptr n g i o => match idxN ts n with
    | some j => match H.get n with
      | some blk => match genOf blk with
        | some g' => bif Nat.beq g' g then .rptr (b + j) 0 i o else .bot
        | none => .bot
      | none => .bot
    | none => bif Nat.ble (n + 1) b then .rptr n g i o else .bot
  | .map n => match idxN ts n with
    | some j => .map (b + j)
    | none => bif Nat.ble (n + 1) b then .map n else .bot
  | .iter n => match idxN ts n with
    | some j => .iter (b + j)
    | none => bif Nat.ble (n + 1) b then .iter n else .bot
  | .func fn f c => .func fn (renVL b ts H f) (renVL b ts H c)
  | .iface t v => .iface t (renV b ts H v)
  | .iaddr cs => bif pureL cs then .iaddr cs else .bot
  | .agg cs => .agg (renVL b ts H cs)
  | .tup cs => .tup (renVL b ts H cs)
  | a => a
def renVL (b : Nat) (ts : List Nat) (H : Heap) : List A → List A
  | [] => []
  | a :: r => renV b ts H a :: renVL b ts H r
end
def renBl (b : Nat) (ts : List Nat) (H : Heap) (zero : Bool) : Blk → Blk
  | .cells rw cs => .cells rw (renVL b ts H cs)
  | .row rw t xs g => .row rw t xs (bif zero then 0 else g)
  | .urow rw sz cs g => .urow rw sz (renVL b ts H cs) (bif zero then 0 else g)
  | .tmap rw ka va k v es => .tmap rw ka va k v es
  | _ => .dead
def newG (b : Nat) (ts : List Nat) (H : Heap) : Nat → List Nat → List (Nat × Blk)
  | _, [] => []
  | i, n :: r => match H.get n with
    | some blk => (b + i, renBl b ts H true blk) :: newG b ts H (i + 1) r
    | none => newG b ts H (i + 1) r
def oldG (b : Nat) (ts vs : List Nat) (H : Heap) : Nat → List (Nat × Blk)
  | 0 => []
  | n + 1 => match idxN vs n, idxN ts n, H.get n with
    | some _, none, some blk => (n, renBl b ts H false blk) :: oldG b ts vs H n
    | _, _, _ => oldG b ts vs H n
def keepG (b : Nat) (ts : List Nat) (H : Heap) (tm : Fr) : List Nat → Fr
  | [] => []
  | s :: r => (s, renV b ts H (tm.get s)) :: keepG b ts H tm r

/-- Rows that are nil yet. -/
def rowSlots : List (Nat × Ty) → Fr → Heap → Fr × Heap
  | [], tm, H => (tm, H)
  | (s, t) :: r, tm, H => match tm.get s with
    | .nils => rowSlots r ((s, .hsl H.next 0 none) :: tm) (H.put H.next (.row true t [] 0))
    | _ => rowSlots r tm H
def rowCells : List (Nat × Nat × Ty) → Heap → Heap
  | [], H => H
  | (n, i, t) :: r, H => match H.get n with
    | some (.cells true cs) => match cs[i]? with
      | some .nils => rowCells r ((H.put H.next (.row true t [] 0)).set n (.cells true (cs.set i (.hsl H.next 0 none))))
      | _ => rowCells r H
    | _ => rowCells r H

/-- The state under new names; what is not reached is left out. -/
def normR (live own : List Nat) (b : Nat) (tm : Fr) (H : Heap) : Option (Fr × Heap) :=
  let vs := closeN H 64 0 (liveN tm live [])
  let ts := pickN b H (ownN tm own []) vs
  bif nodupB ts then some (keepG b ts H tm live, ⟨b + ts.length, newG b ts H 0 ts ++ oldG b ts vs H b⟩) else none
def normG (live own : List Nat) (rs : List (Nat × Ty)) (cs : List (Nat × Nat × Ty)) (b : Nat) (tm : Fr) (H : Heap) : Option (Fr × Heap) := match rowSlots rs tm H with
  | (tm1, H1) => normR live own b tm1 (rowCells cs H1)

/-- A loop whose rounds begin, and which ends, in such states. -/
def goN (E : Env) (call : CallK R) (loops : Code → Option (LoopK R)) (u : Nat) (nm : Nat → Fr → Heap → Option (Fr × Heap)) (body : Code) (b : Nat) (K : X → Fr → Heap → Option R) : Nat → Fr → Heap → Option R
  | 0, _, _ => none
  | v + 1, tm, H => viC E call loops u body tm H fun e tm2 H2 => match nm b tm2 H2 with
    | none => none
    | some (tm3, H3) => match e with
      | .norm => goN E call loops u nm body b K v tm3 H3
      | e => K e tm3 H3
def loopG (E : Env) (call : CallK R) (loops : Code → Option (LoopK R)) (u : Nat) (nm : Nat → Fr → Heap → Option (Fr × Heap)) (body : Code) (v : Nat) : LoopK R := fun tm H K => match nm H.next tm H with
  | none => none
  | some (tm1, H1) => goN E call loops u nm body H.next K v tm1 H1

theorem nodupB_ok : ∀ {l : List Nat}, nodupB l = true → l.Nodup
  | [], _ => List.nodup_nil
  | a :: r, h => by
    simp only [nodupB, Bool.and_eq_true] at h
    refine List.nodup_cons.2 ⟨fun hm => ?_, nodupB_ok h.2⟩
    cases hx : idxN r a with
    | none => exact idxN_none hx hm
    | some j => rw [hx] at h; simp at h

theorem renVL_length (b : Nat) (ts : List Nat) (H : Heap) : ∀ l : List A, (renVL b ts H l).length = l.length
  | [] => rfl
  | a :: r => by simp [renVL, renVL_length b ts H r]
theorem renVL_getD (b : Nat) (ts : List Nat) (H : Heap) : ∀ (l : List A) (i : Nat), (renVL b ts H l).getD i .bot = renV b ts H (l.getD i .bot)
  | [], i => by simp [renVL, renV]
  | a :: r, 0 => by simp [renVL]
  | a :: r, i + 1 => by
    simp only [renVL, List.getD_cons_succ]
    exact renVL_getD b ts H r i

/-- The world under the new names. -/
def Cx.anew (C : Cx) (b : Nat) (ts : List Nat) (H : Heap) : Cx where
  w := C.w
  H := H
  ρ := fun n => if n < b then C.ρ n else (ts[n - b]?).bind C.ρ
  η := fun n => if n < b then C.η n else (ts[n - b]?).bind C.η
  hid := C.hid

theorem newG_spec {b : Nat} {ts : List Nat} {H : Heap} : ∀ {l : List Nat} {i t : Nat} {x : Blk}, luk (newG b ts H i l) t = some x → b + i ≤ t ∧ ∃ n blk, l[t - (b + i)]? = some n ∧ H.get n = some blk ∧ x = renBl b ts H true blk
  | [], i, t, x, h => by cases h
  | n :: r, i, t, x, h => by
    simp only [newG] at h
    have rest : luk (newG b ts H (i + 1) r) t = some x → b + i ≤ t ∧ ∃ m blk, (n :: r)[t - (b + i)]? = some m ∧ H.get m = some blk ∧ x = renBl b ts H true blk := fun h => by
      obtain ⟨h1, m, blk, h2, h3⟩ := newG_spec h
      refine ⟨by omega, m, blk, ?_, h3⟩
      rw [show t - (b + i) = (t - (b + (i + 1))) + 1 by omega]
      simpa using h2
    split at h
    · rename_i blk hb
      rw [luk_cons] at h
      split at h
      · rename_i he
        cases h
        subst he
        exact ⟨Nat.le_refl _, n, blk, by simp, hb, rfl⟩
      · exact rest h
    · exact rest h
theorem oldG_spec {b : Nat} {ts vs : List Nat} {H : Heap} : ∀ {n t : Nat} {x : Blk}, luk (oldG b ts vs H n) t = some x → t < n ∧ idxN ts t = none ∧ ∃ blk, H.get t = some blk ∧ x = renBl b ts H false blk
  | 0, t, x, h => by cases h
  | n + 1, t, x, h => by
    simp only [oldG] at h
    have rest : luk (oldG b ts vs H n) t = some x → t < n + 1 ∧ idxN ts t = none ∧ ∃ blk, H.get t = some blk ∧ x = renBl b ts H false blk := fun h => by
      obtain ⟨h1, h2⟩ := oldG_spec h
      exact ⟨by omega, h2⟩
    split at h
    · rename_i blk _ hi hb
      rw [luk_cons] at h
      split at h
      · rename_i he
        cases h
        subst he
        exact ⟨by omega, hi, blk, hb, rfl⟩
      · exact rest h
    · exact rest h

theorem genOf_renBl {b : Nat} {ts : List Nat} {H : Heap} {z : Bool} {blk : Blk} {g : Nat} (h : genOf (renBl b ts H z blk) = some g) :
    ∃ g0, genOf blk = some g0 ∧ g = (bif z then 0 else g0) ∧ lenOf (renBl b ts H z blk) = lenOf blk ∧ szOf (renBl b ts H z blk) = szOf blk := by
  cases blk <;> simp only [renBl, genOf] at h <;> first | cases h | skip
  · exact ⟨_, rfl, rfl, rfl, rfl⟩
  · exact ⟨_, rfl, rfl, by simp [renBl, lenOf, renVL_length], rfl⟩

theorem normR_sound {C0 C : Cx} {tm tm1 : Fr} {a : Act} {H1 : Heap} {live own : List Nat} (hs : Step C0 C) (hR : Rel C) (hf : FR C tm a) (h : normR live own C0.H.next tm C.H = some (tm1, H1)) (hR0 : Rel C0) :
    ∃ C1 : Cx, C1.H = H1 ∧ C1.w = C.w ∧ Rel C1 ∧ FR C1 tm1 a ∧ Step C0 C1 := by
  simp only [normR] at h
  generalize closeN C.H 64 0 (liveN tm live []) = vs at h
  generalize hts : pickN C0.H.next C.H (ownN tm own []) vs = ts at h
  cases hnd' : nodupB ts with
  | false => simp only [hnd', cond_false] at h; cases h
  | true =>
  simp only [hnd', cond_true, Option.some.injEq, Prod.mk.injEq] at h
  obtain ⟨rfl, rfl⟩ := h
  have hnd := nodupB_ok hnd'
  generalize hb : C0.H.next = b at *
  have hnext : b ≤ C.H.next := by rw [← hb]; exact hs.next
  let D : Cx := C.anew b ts ⟨b + ts.length, newG b ts C.H 0 ts ++ oldG b ts vs C.H b⟩
  -- blocks: new ones, old ones
  have hget : ∀ n x, D.H.get n = some x → (b ≤ n ∧ ∃ m blk, ts[n - b]? = some m ∧ C.H.get m = some blk ∧ x = renBl b ts C.H true blk) ∨ (n < b ∧ idxN ts n = none ∧ ∃ blk, C.H.get n = some blk ∧ x = renBl b ts C.H false blk) := fun n x hx => by
    have hx : luk (newG b ts C.H 0 ts ++ oldG b ts vs C.H b) n = some x := hx
    rw [luk_append] at hx
    split at hx
    · rename_i y hy
      cases hx
      obtain ⟨h1, m, blk, h2, h3, h4⟩ := newG_spec hy
      rw [Nat.add_zero] at h1 h2
      exact .inl ⟨h1, m, blk, h2, h3, h4⟩
    · exact .inr (oldG_spec hx)
  have eρ1 : ∀ n, n < b → D.ρ n = C.ρ n := fun n hn => by show (if n < b then _ else _) = _; rw [if_pos hn]
  have eη1 : ∀ n, n < b → D.η n = C.η n := fun n hn => by show (if n < b then _ else _) = _; rw [if_pos hn]
  have eρ2 : ∀ j m, ts[j]? = some m → D.ρ (b + j) = C.ρ m := fun j m hj => by
    show (if b + j < b then _ else (ts[b + j - b]?).bind C.ρ) = _
    rw [if_neg (by omega), show b + j - b = j by omega, hj]; rfl
  have eη2 : ∀ j m, ts[j]? = some m → D.η (b + j) = C.η m := fun j m hj => by
    show (if b + j < b then _ else (ts[b + j - b]?).bind C.η) = _
    rw [if_neg (by omega), show b + j - b = j by omega, hj]; rfl
  have hbren : ∀ (n m : Nat) (z : Bool) (blk : Blk) b', D.ρ n = C.ρ m → D.η n = C.η m → blockOf D n (renBl b ts C.H z blk) = some b' → blockOf C m blk = some b' ∧ rwOf (renBl b ts C.H z blk) = rwOf blk := fun n m z blk b' h1 h2 h => by
    cases blk <;> simp only [renBl, blockOf] at h ⊢ <;> first | cases h | skip
    · exact ⟨h1 ▸ h, by first | trivial | rfl⟩
    · exact ⟨h2 ▸ h, by first | trivial | rfl⟩
    · exact ⟨h2 ▸ h, by first | trivial | rfl⟩
    · exact ⟨h1 ▸ h, by first | trivial | rfl⟩
  have hbo : ∀ n x b', D.H.get n = some x → blockOf D n x = some b' → ∃ m y, C.H.get m = some y ∧ blockOf C m y = some b' ∧ rwOf x = rwOf y ∧ ((b ≤ n ∧ ts[n - b]? = some m) ∨ (n < b ∧ m = n ∧ idxN ts n = none)) := fun n x b' hx h => by
    rcases hget n x hx with ⟨h1, m, blk, h2, h3, rfl⟩ | ⟨h1, h2, blk, h3, rfl⟩
    · have e1 := eρ2 _ m h2
      have e2 := eη2 _ m h2
      rw [show b + (n - b) = n by omega] at e1 e2
      obtain ⟨k1, k2⟩ := hbren n m true blk b' e1 e2 h
      exact ⟨m, blk, h3, k1, k2, .inl ⟨h1, h2⟩⟩
    · obtain ⟨k1, k2⟩ := hbren n n false blk b' (eρ1 n h1) (eη1 n h1) h
      exact ⟨n, blk, h3, k1, k2, .inr ⟨h1, rfl, h2⟩⟩
  have hown : ∀ b', D.own b' → C.own b' := fun b' hb' => by
    rcases hb' with hb' | ⟨n, x, hx, hr, h⟩
    · exact .inl hb'
    · obtain ⟨m, y, h1, h2, h3, _⟩ := hbo n x b' hx h
      exact .inr ⟨m, y, h1, h3 ▸ hr, h2⟩
  have hsame : Same C D := fun b' _ ho => ⟨rfl, fun h => ho (hown b' h)⟩
  -- values
  have hv : ∀ {x : A} {v : Value}, VR C x v → VR D (renV b ts C.H x) v := by
    intro x v hx
    induction hx with
    | bot v => exact .bot v
    | bool b => exact .bool b
    | int k n => exact .int k n
    | str l s hs => exact .str l s hs
    | nilp => exact .nilp
    | nils => exact .nils
    | nilm => exact .nilm
    | nilf => exact .nilf
    | nili => exact .nili
    | ptr n o b' hb' =>
      simp only [renV]
      split
      · rename_i j hj
        exact .ptr _ _ _ ((eρ2 j n (idxN_get hj)).trans hb')
      · cases hlt : Nat.ble (n + 1) b with
        | true => exact .ptr _ _ _ ((eρ1 n (Nat.le_of_ble_eq_true hlt)).trans hb')
        | false => exact .bot _
    | sl0 t a cap => exact .sl0 t a cap
    | sl t xs b' o cap c e fr hb' ho hs hcap hc h1 _ => exact (VR.sl t xs b' o cap c e fr hb' ho hs hcap hc h1).shift hsame rfl
    | hsl n g sub ad len cap hn hcap hle hh =>
      simp only [renV]
      split
      · rename_i j hj
        have hj' := idxN_get hj
        split
        · rename_i blk hblk
          split
          · rename_i g' hg'
            cases hgg : Nat.beq g' g with
            | false => exact .bot _
            | true =>
              have hgg := Nat.eq_of_beq_eq_true hgg
              subst hgg
              simp only [cond_true]
              refine .hsl _ _ _ _ _ _ (by show b + j < b + ts.length; have := (List.getElem?_eq_some_iff.1 hj').1; omega) hcap (fun _ _ _ _ => Nat.zero_le _) (fun x hx hg0 => ?_)
              rcases hget _ x hx with ⟨_, m, blk', h2, h3, rfl⟩ | ⟨h1, _⟩
              · rw [show b + j - b = j by omega, hj'] at h2
                cases h2
                rw [hblk] at h3
                cases h3
                obtain ⟨g0, q1, q2, q3, q4⟩ := genOf_renBl hg0
                have := hh blk hblk hg'
                rw [q3, q4, eη2 j n hj']
                exact this
              · omega
          · exact .bot _
        · exact .bot _
      · rename_i hi
        cases hlt : Nat.ble (n + 1) b with
        | false => exact .bot _
        | true =>
          have hlt := Nat.le_of_ble_eq_true hlt
          simp only [cond_true]
          refine .hsl _ _ _ _ _ _ (by show n < b + ts.length; omega) hcap (fun x g' hx hg' => ?_) (fun x hx hg' => ?_)
          · rcases hget _ x hx with ⟨h1, _⟩ | ⟨_, _, blk, h3, rfl⟩
            · omega
            · obtain ⟨g0, q1, q2, q3, q4⟩ := genOf_renBl hg'
              simp only [cond_false] at q2
              subst q2
              exact hle blk g' h3 q1
          · rcases hget _ x hx with ⟨h1, _⟩ | ⟨_, _, blk, h3, rfl⟩
            · omega
            · obtain ⟨g0, q1, q2, q3, q4⟩ := genOf_renBl hg'
              simp only [cond_false] at q2
              subst q2
              have := hh blk h3 q1
              rw [q3, q4, eη1 n (by omega)]
              exact this
    | rptr n g i o v hn h1 hle hh =>
      simp only [renV]
      split
      · rename_i j hj
        have hj' := idxN_get hj
        split
        · rename_i blk hblk
          split
          · rename_i g' hg'
            cases hgg : Nat.beq g' g with
            | false => exact .bot _
            | true =>
              have hgg := Nat.eq_of_beq_eq_true hgg
              subst hgg
              simp only [cond_true]
              refine .rptr _ _ _ _ _ (by show b + j < b + ts.length; have := (List.getElem?_eq_some_iff.1 hj').1; omega) h1 (fun _ _ _ _ => Nat.zero_le _) (fun x hx hg0 => ?_)
              rcases hget _ x hx with ⟨_, m, blk', h2, h3, rfl⟩ | ⟨h1, _⟩
              · rw [show b + j - b = j by omega, hj'] at h2
                cases h2
                rw [hblk] at h3
                cases h3
                obtain ⟨g0, q1, q2, q3, q4⟩ := genOf_renBl hg0
                have := hh blk hblk hg'
                rw [q3, q4, eη2 j n hj']
                exact this
              · omega
          · exact .bot _
        · exact .bot _
      · rename_i hi
        cases hlt : Nat.ble (n + 1) b with
        | false => exact .bot _
        | true =>
          have hlt := Nat.le_of_ble_eq_true hlt
          simp only [cond_true]
          refine .rptr _ _ _ _ _ (by show n < b + ts.length; omega) h1 (fun x g' hx hg' => ?_) (fun x hx hg' => ?_)
          · rcases hget _ x hx with ⟨h1, _⟩ | ⟨_, _, blk, h3, rfl⟩
            · omega
            · obtain ⟨g0, q1, q2, q3, q4⟩ := genOf_renBl hg'
              simp only [cond_false] at q2
              subst q2
              exact hle blk g' h3 q1
          · rcases hget _ x hx with ⟨h1, _⟩ | ⟨_, _, blk, h3, rfl⟩
            · omega
            · obtain ⟨g0, q1, q2, q3, q4⟩ := genOf_renBl hg'
              simp only [cond_false] at q2
              subst q2
              have := hh blk h3 q1
              rw [q3, q4, eη1 n (by omega)]
              exact this
    | map n b' hb' =>
      simp only [renV]
      split
      · rename_i j hj
        exact .map _ _ ((eρ2 j n (idxN_get hj)).trans hb')
      · cases hlt : Nat.ble (n + 1) b with
        | true => exact .map _ _ ((eρ1 n (Nat.le_of_ble_eq_true hlt)).trans hb')
        | false => exact .bot _
    | iter n b' hb' =>
      simp only [renV]
      split
      · rename_i j hj
        exact .iter _ _ ((eρ2 j n (idxN_get hj)).trans hb')
      · cases hlt : Nat.ble (n + 1) b with
        | true => exact .iter _ _ ((eρ1 n (Nat.le_of_ble_eq_true hlt)).trans hb')
        | false => exact .bot _
    | func fn first cap f c hf hc _ _ i1 i2 =>
      simp only [renV]
      refine .func _ _ _ _ _ (by rw [renVL_length]; exact hf) (by rw [renVL_length]; exact hc) (fun i hi => ?_) (fun i hi => ?_)
      · rw [renVL_getD]; exact i1 i (by rwa [renVL_length] at hi)
      · rw [renVL_getD]; exact i2 i (by rwa [renVL_length] at hi)
    | iface t a v _ ih => exact .iface _ _ _ ih
    | iaddr cs b' o c e fr hb' ho hs hc h1 _ =>
      simp only [renV]
      cases hp : pureL cs with
      | false => exact .bot _
      | true => exact (VR.iaddr cs b' o c e fr hb' ho hs hc h1).shift hsame hp
    | agg cs c hs _ h1 ih =>
      simp only [renV]
      refine .agg _ _ (by rw [renVL_length]; exact hs) (fun i hi => ?_) (fun i hi => h1 i (by rwa [renVL_length] at hi))
      rw [renVL_getD]; exact ih i (by rwa [renVL_length] at hi)
    | tup cs c hs _ ih =>
      simp only [renV]
      refine .tup _ _ (by rw [renVL_length]; exact hs) (fun i hi => ?_)
      rw [renVL_getD]; exact ih i (by rwa [renVL_length] at hi)
  have hvl : ∀ (cs : List A) (g : Nat → Value), (∀ i, i < cs.length → VR C (cs.getD i .bot) (g i)) → ∀ i, i < (renVL b ts C.H cs).length → VR D ((renVL b ts C.H cs).getD i .bot) (g i) := fun cs g h i hi => by
    rw [renVL_getD]; exact hv (h i (by rwa [renVL_length] at hi))
  -- blocks
  have hblk : ∀ (n m : Nat) (z : Bool) (blk : Blk), D.ρ n = C.ρ m → D.η n = C.η m → BlkR C m blk → BlkR D n (renBl b ts C.H z blk) := fun n m z blk e1 e2 h => by
    cases blk with
    | dead => trivial
    | cells rw cs =>
      obtain ⟨b', c, e, fr, h1, h2, h3, h4⟩ := h
      exact ⟨b', c, e, fr, e1.trans h1, h2, ⟨by rw [renVL_length]; exact h3.1, hvl cs _ h3.2.1, fun i hi => h3.2.2 i (by rwa [renVL_length] at hi)⟩, h4⟩
    | row rw t xs g =>
      rcases h with ⟨h1, h2⟩ | ⟨b', cap, c, e, fr, h1, h2, h3, h4, h5, h6, h7⟩
      · exact .inl ⟨e2.trans h1, h2⟩
      · exact .inr ⟨b', cap, c, e, fr, e2.trans h1, h2, h3, h4, h5, fun i j hi hj => (h6 i j hi hj).shift hsame (pureL_get (VR.shift.pure_enc t (rd xs i)) j (by rw [enc_length]; exact hj)), h7⟩
    | urow rw sz cs g =>
      obtain ⟨h0, b', cap, c, e, fr, h1, h2, h3, h4, h5, h6, h7, h8⟩ := h
      exact ⟨h0, b', cap, c, e, fr, e2.trans h1, h2, h3, h4, by rw [renVL_length]; exact h5, by rw [renVL_length]; exact h6, hvl cs _ h7, h8⟩
    | tmap rw ka va κ ν es =>
      obtain ⟨b', me, cl, h1, h2, ⟨⟨ll, p1, p2, p3⟩, p4, p5⟩, h4⟩ := h
      refine ⟨b', me, cl, e1.trans h1, h2, ⟨⟨ll, p1, p2, fun i hi => ?_⟩, p4, p5⟩, h4⟩
      have hmem : ll.getD i ([], []) ∈ es.map fun e => (enc κ e.1, enc ν e.2) := by
        refine p1.mem_iff.1 ?_
        rw [List.getD_eq_getElem?_getD, List.getElem?_eq_getElem (by omega)]
        exact List.getElem_mem _
      obtain ⟨e, _, he⟩ := List.mem_map.1 hmem
      obtain ⟨q1, q2⟩ := p3 i hi
      rw [← he] at q1 q2 ⊢
      exact ⟨⟨⟨q1.1.1, fun j hj => (q1.1.2.1 j hj).shift hsame (pureL_get (VR.shift.pure_enc κ e.1) j hj), q1.1.2.2⟩, q1.2⟩, ⟨⟨q2.1.1, fun j hj => (q2.1.2.1 j hj).shift hsame (pureL_get (VR.shift.pure_enc ν e.2) j hj), q2.1.2.2⟩, q2.2⟩⟩
    | amap rw es => trivial
    | siter s p => trivial
  refine ⟨D, rfl, rfl, ?_, ?_, ?_⟩
  · exact {
      names := fun n hn => by
        have hn : b + ts.length ≤ n := hn
        refine ⟨?_, ?_⟩
        · cases hx : D.H.get n with
          | none => rfl
          | some x =>
            rcases hget n x hx with ⟨h1, m, blk, h2, _⟩ | ⟨h1, _⟩
            · have := (List.getElem?_eq_some_iff.1 h2).1
              omega
            · omega
        · show (if n < b then C.ρ n else (ts[n - b]?).bind C.ρ) = none
          rw [if_neg (by omega), List.getElem?_eq_none (by omega)]
          rfl
      blocks := fun n x hx => by
        rcases hget n x hx with ⟨h1, m, blk, h2, h3, rfl⟩ | ⟨h1, h2, blk, h3, rfl⟩
        · have e1 := eρ2 _ m h2
          have e2 := eη2 _ m h2
          rw [show b + (n - b) = n by omega] at e1 e2
          exact hblk n m true blk e1 e2 (hR.blocks m blk h3)
        · exact hblk n n false blk (eρ1 n h1) (eη1 n h1) (hR.blocks n blk h3)
      dist := fun i j x y b' hx hy hr h1 h2 => by
        obtain ⟨m, x', p1, p2, p3, p4⟩ := hbo i x b' hx h1
        obtain ⟨m', y', q1, q2, q3, q4⟩ := hbo j y b' hy h2
        have hm := hR.dist m m' x' y' b' p1 q1 (p3 ▸ hr) p2 q2
        subst hm
        rcases p4 with ⟨p4, p5⟩ | ⟨p4, p5, p6⟩ <;> rcases q4 with ⟨q4, q5⟩ | ⟨q4, q5, q6⟩
        · obtain ⟨hi1, hi2⟩ := List.getElem?_eq_some_iff.1 p5
          obtain ⟨hj1, hj2⟩ := List.getElem?_eq_some_iff.1 q5
          have := (List.getElem_inj hnd).1 (hi2.trans hj2.symm)
          omega
        · exact absurd (List.mem_of_getElem? p5) (by rw [q5]; exact idxN_none q6)
        · exact absurd (List.mem_of_getElem? q5) (by rw [p5]; exact idxN_none p6)
        · exact p5.symm.trans q5
      hid := fun b' hb' => ⟨(hR.hid b' hb').1, fun n x hx h => by
        obtain ⟨m, y, h1, h2, _⟩ := hbo n x b' hx h
        exact (hR.hid b' hb').2 m y h1 h2⟩ }
  · -- slots
    intro t v ht
    have key : ∀ (ll : List Nat), luk (keepG b ts C.H tm ll) t = some v → v = renV b ts C.H (tm.get t) := by
      intro ll
      induction ll with
      | nil => intro h; cases h
      | cons s r ih =>
        intro h
        simp only [keepG] at h
        rw [luk_cons] at h
        split at h
        · rename_i he
          subst he
          cases h
          rfl
        · exact ih h
    rw [key live ht]
    exact hv (hf.get t)
  · exact {
      next := by show C0.H.next ≤ b + ts.length; omega
      ρ := fun n b' h => by
        have hn : n < b := by
          rcases Nat.lt_or_ge n b with h' | h'
          · exact h'
          · rw [(hR0.names n (by rw [hb]; exact h')).2] at h; cases h
        rw [eρ1 n hn]; exact hs.ρ n b' h
      rows := fun n x g hlt hx hg => by
        rw [hb] at hlt
        rcases hget n x hx with ⟨h1, _⟩ | ⟨_, _, blk, h3, rfl⟩
        · omega
        · obtain ⟨g0, q1, q2, q3, q4⟩ := genOf_renBl hg
          simp only [cond_false] at q2
          subst q2
          obtain ⟨blk0, g1, r1, r2, r3, r4⟩ := hs.rows n blk g (by rw [hb]; exact hlt) h3 q1
          refine ⟨blk0, g1, r1, r2, r3, fun he => ?_⟩
          obtain ⟨s1, s2, s3⟩ := r4 he
          exact ⟨q3.trans s1, q4.trans s2, (eη1 n hlt).trans s3⟩
      size := hs.size
      frame := hs.frame
      own := fun b' hb' => hs.own b' (hown b' hb')
      hid := hs.hid
      dead := fun n hlt hg => by
        rw [hb] at hlt
        obtain ⟨h1, h2⟩ := hs.dead n (by rw [hb]; exact hlt) hg
        refine ⟨?_, (eρ1 n hlt).trans h2⟩
        cases hx : D.H.get n with
        | none => rfl
        | some x =>
          rcases hget n x hx with ⟨h3, _⟩ | ⟨_, _, blk, h3, _⟩
          · omega
          · rw [h1] at h3; cases h3
      hframe := hs.hframe
      os := hs.os, tape := hs.tape, output := hs.output }

/-- A row that is nil yet, under a free name. -/
def Cx.nilAt (C : Cx) (t : Ty) : Cx where
  w := C.w
  H := C.H.put C.H.next (.row true t [] 0)
  ρ := C.ρ
  η := fun n => if n = C.H.next then none else C.η n
  hid := C.hid
theorem nilAt_next (C : Cx) (t : Ty) : (C.nilAt t).H.next = C.H.next + 1 := next_put _ _ _ (Nat.le_refl _)
theorem nilAt_get (C : Cx) (t : Ty) (n : Nat) : (C.nilAt t).H.get n = if C.H.next = n then some (.row true t [] 0) else C.H.get n := get_put _ _ _ _
theorem nilAt_bo {C : Cx} {t : Ty} {n : Nat} (h : n ≠ C.H.next) (x : Blk) : blockOf (C.nilAt t) n x = blockOf C n x := by
  cases x <;> simp [blockOf, Cx.nilAt, h]
theorem nilAt_own {C : Cx} {t : Ty} {b : Nat} (h : (C.nilAt t).own b) : C.own b := by
  rcases h with h | ⟨n, x, hx, hr, hb⟩
  · exact .inl h
  · rw [nilAt_get] at hx
    split at hx
    · rename_i he
      cases hx
      subst he
      simp [blockOf, Cx.nilAt] at hb
    · rename_i he
      exact .inr ⟨n, x, hx, hr, by rw [← nilAt_bo (Ne.symm he) x (t := t)]; exact hb⟩
theorem nilAt_step {C : Cx} (hR : Rel C) (t : Ty) : Step C (C.nilAt t) where
  next := by rw [nilAt_next]; omega
  ρ n b hb := hb
  rows n blk g hlt hx hg := by
    rw [nilAt_get, if_neg (by omega)] at hx
    exact ⟨blk, g, hx, hg, Nat.le_refl _, fun _ => ⟨rfl, rfl, by show (if n = C.H.next then none else C.η n) = _; rw [if_neg (by omega)]⟩⟩
  size := Nat.le_refl _
  frame _ _ _ := rfl
  hid _ h := h
  dead n hlt hg := ⟨by rw [nilAt_get, if_neg (by omega)]; exact hg, rfl⟩
  hframe _ _ _ := rfl
  own b hb := .inl (nilAt_own hb)
  os := rfl
  tape := rfl
  output := rfl
theorem nilAt_rel {C : Cx} (hR : Rel C) (t : Ty) : Rel (C.nilAt t) where
  names n hn := by
    rw [nilAt_next] at hn
    rw [nilAt_get, if_neg (by omega)]
    exact hR.names n (by omega)
  blocks n x hx := by
    rw [nilAt_get] at hx
    split at hx
    · rename_i he
      cases hx
      subst he
      exact .inl ⟨by simp [Cx.nilAt], rfl⟩
    · rename_i he
      exact (hR.blocks n x hx).keep (nilAt_step hR t) (by simp [Cx.nilAt, Ne.symm he]) fun k o _ ho => ho
  dist i j x y b hx hy hr h1 h2 := by
    rw [nilAt_get] at hx hy
    split at hx
    · rename_i he
      cases hx
      subst he
      simp [blockOf, Cx.nilAt] at h1
    · rename_i hi
      split at hy
      · rename_i he
        cases hy
        subst he
        simp [blockOf, Cx.nilAt] at h2
      · rename_i hj
        rw [nilAt_bo (Ne.symm hi)] at h1
        rw [nilAt_bo (Ne.symm hj)] at h2
        exact hR.dist i j x y b hx hy hr h1 h2
  hid b hb := ⟨(hR.hid b hb).1, fun n x hx h => by
    rw [nilAt_get] at hx
    split at hx
    · rename_i he
      cases hx
      subst he
      simp [blockOf, Cx.nilAt] at h
    · rename_i he
      rw [nilAt_bo (Ne.symm he)] at h
      exact (hR.hid b hb).2 n x hx h⟩
theorem nilAt_VR {C : Cx} {v : Value} (t : Ty) (h : VR C .nils v) : VR (C.nilAt t) (.hsl C.H.next 0 none) v := by
  cases h
  refine .hsl _ _ _ _ _ _ (by rw [nilAt_next]; omega) (Nat.le_refl _) (fun _ _ _ _ => Nat.zero_le _) fun blk hb _ => ?_
  rw [nilAt_get, if_pos rfl] at hb
  cases hb
  refine ⟨rfl, ?_⟩
  have : (C.nilAt t).η C.H.next = none := by simp [Cx.nilAt]
  simp only [this]
  exact ⟨trivial, trivial⟩

theorem rowSlots_sound {C0 : Cx} {a : Act} : ∀ {rs : List (Nat × Ty)} {C : Cx} {tm tm1 : Fr} {H1 : Heap}, Step C0 C → Rel C → FR C tm a → rowSlots rs tm C.H = (tm1, H1) →
    ∃ C1 : Cx, C1.H = H1 ∧ C1.w = C.w ∧ Rel C1 ∧ FR C1 tm1 a ∧ Step C0 C1
  | [], C, tm, tm1, H1, hs, hR, hf, h => by
    cases h
    exact ⟨C, rfl, rfl, hR, hf, hs⟩
  | (s, t) :: r, C, tm, tm1, H1, hs, hR, hf, h => by
    simp only [rowSlots] at h
    split at h
    · rename_i hn
      have hv := hf.get s
      rw [hn] at hv
      have hf' : FR (C.nilAt t) ((s, .hsl C.H.next 0 none) :: tm) a := fun u v hu => by
        rw [luk_cons] at hu
        split at hu
        · rename_i he
          cases hu
          subst he
          exact nilAt_VR t hv
        · exact (hf u v hu).keep (nilAt_step hR t)
      obtain ⟨C1, h1, h2, h3, h4, h5⟩ := rowSlots_sound (hs.trans (nilAt_step hR t)) (nilAt_rel hR t) hf' h
      exact ⟨C1, h1, h2, h3, h4, h5⟩
    · exact rowSlots_sound hs hR hf h

/-- A block of cells, seen otherwise: the world stays. -/
theorem reseen {C : Cx} (hR : Rel C) {n : Nat} {cs cs' : List A} (hg : C.H.get n = some (.cells true cs)) (hl : cs'.length = cs.length)
    (hv : ∀ i v, i < cs.length → VR C (cs.getD i .bot) v → VR C (cs'.getD i .bot) v) :
    Rel { C with H := C.H.set n (.cells true cs') } ∧ Step C { C with H := C.H.set n (.cells true cs') } := by
  have hup : Upd C { C with H := C.H.set n (.cells true cs') } n (.cells true cs) (.cells true cs') := {
    get := hg, rw := rfl, H := rfl, ρ := rfl, η := fun _ _ => rfl, size := Nat.le_refl _
    frame := fun _ _ _ => rfl
    own := fun k hk => .inl hk
    hid := rfl
    free := fun k hk h => (hR.hid k hk).2 n _ hg h
    gen := fun g h => by cases h
    os := rfl, tape := rfl, output := rfl }
  have hst := hup.step
  refine ⟨hup.rel hR ?_, hst⟩
  obtain ⟨b, c, e, fr, h1, h2, h3, h4⟩ := hR.blocks n _ hg
  refine ⟨b, c, e, fr, h1, h2, ⟨h3.1.trans hl.symm, fun i hi => ?_, fun i hi => h3.2.2 i (by omega)⟩, h4⟩
  exact (hv i _ (by omega) (h3.2.1 i (by omega))).keep hst

theorem rowCells_sound {C0 : Cx} {a : Act} {tm : Fr} : ∀ {cs : List (Nat × Nat × Ty)} {C : Cx}, Step C0 C → Rel C → FR C tm a →
    ∃ C1 : Cx, C1.H = rowCells cs C.H ∧ C1.w = C.w ∧ Rel C1 ∧ FR C1 tm a ∧ Step C0 C1
  | [], C, hs, hR, hf => ⟨C, rfl, rfl, hR, hf, hs⟩
  | (n, i, t) :: r, C, hs, hR, hf => by
    simp only [rowCells]
    split
    · rename_i cs hg
      split
      · rename_i hi
        have hlt := (List.getElem?_eq_some_iff.1 hi).1
        have hg' : (C.nilAt t).H.get n = some (.cells true cs) := by
          rw [nilAt_get, if_neg (fun h => by rw [← h, (hR.names _ (Nat.le_refl _)).1] at hg; cases hg)]
          exact hg
        obtain ⟨k1, k2⟩ := reseen (nilAt_rel hR t) (cs' := cs.set i (.hsl C.H.next 0 none)) hg' (by simp) (fun j v hj hvj => by
          by_cases hij : i = j
          · subst hij
            have e1 : cs.getD i .bot = .nils := by rw [List.getD_eq_getElem?_getD, hi]; rfl
            rw [e1] at hvj
            have e2 : (cs.set i (A.hsl C.H.next 0 none)).getD i .bot = .hsl C.H.next 0 none := by
              rw [List.getD_eq_getElem?_getD, List.getElem?_set_self hlt]; rfl
            rw [e2]
            exact nilAt_VR t (by cases hvj; exact .nils)
          · have e2 : (cs.set i (A.hsl C.H.next 0 none)).getD j .bot = cs.getD j .bot := by
              rw [List.getD_eq_getElem?_getD, List.getElem?_set_ne hij, List.getD_eq_getElem?_getD]
            rw [e2]
            exact hvj)
        have hst := (nilAt_step hR t).trans k2
        exact rowCells_sound (hs.trans hst) k1 (hf.keep hst)
      · exact rowCells_sound hs hR hf
    · exact rowCells_sound hs hR hf

/-- What a state under new names must be. -/
structure NormOk (nm : Nat → Fr → Heap → Option (Fr × Heap)) : Prop where
  ok : ∀ {C0 C : Cx} {tm tm1 : Fr} {a : Act} {H1 : Heap}, Step C0 C → Rel C → FR C tm a → nm C0.H.next tm C.H = some (tm1, H1) → Rel C0 →
    ∃ C1 : Cx, C1.H = H1 ∧ C1.w = C.w ∧ Rel C1 ∧ FR C1 tm1 a ∧ Step C0 C1

theorem normG_ok (live own : List Nat) (rs : List (Nat × Ty)) (cs : List (Nat × Nat × Ty)) : NormOk (normG live own rs cs) := by
  refine ⟨fun {C0 C tm tm1 a H1} hs hR hf h hR0 => ?_⟩
  simp only [normG] at h
  generalize hx : rowSlots rs tm C.H = p at h
  obtain ⟨tm2, H2⟩ := p
  obtain ⟨C1, rfl, h2, h3, h4, h5⟩ := rowSlots_sound hs hR hf hx
  obtain ⟨C2, k1, k2, k3, k4, k5⟩ := rowCells_sound (cs := cs) h5 h3 h4
  simp only [← k1] at h
  obtain ⟨C3, l1, l2, l3, l4, l5⟩ := normR_sound k5 k3 k4 h hR0
  exact ⟨C3, l1, l2.trans (k2.trans h2), l3, l4, l5⟩

theorem loopG_ok {n u : Nat} {call : CallK R} {loops : Code → Option (LoopK R)} {nm : Nat → Fr → Heap → Option (Fr × Heap)} {body : Code} {v : Nat} (hE : EnvOk P E) (hc : CallSound P call) (hl : ∀ b ∈ loopsIn body, ∀ l, loops b = some l → LoopOk P n b l) (hw : wfC n body = true) (hn : NormOk nm) :
    LoopOk P n body (loopG E call loops u nm body v) := by
  intro tm C a K r Q hs hR hf h hQ
  refine wp_loop_rounds v ?_
  unfold loopG at h
  have key : ∀ (v : Nat) (tm : Fr) (C' : Cx) (a' : Act), Step C C' → a'.tmps.size = n → a'.defers = a.defers → Rel C' → FR C' tm a' →
      goN E call loops u nm body C.H.next K v tm C'.H = some r → Code.rounds P body Q v a' C'.w := by
    intro v
    induction v with
    | zero => intro tm C' a' _ _ _ _ _ h; cases h
    | succ v ih =>
      intro tm C' a' hst hs' hd' hR' hf' h
      simp only [goN] at h
      refine viC_sound hE hc body hl hw hs' hR' hf' h fun e C2 a2 tm2 k1 k2 k3 k4 k5 k6 => ?_
      split at k6
      · cases k6
      rename_i tm3 H3 hn2
      obtain ⟨C3, f1, f2, hR3, hf3, hst3⟩ := hn.ok (hst.trans k1) k2 k3 hn2 hR
      subst f1
      cases e with
      | norm =>
        have goal : Code.rounds P body Q v a2 C3.w → Code.rounds P body Q v a2 C2.w := by rw [f2]; exact id
        exact goal (ih tm3 C3 a2 hst3 k4 (k5.trans hd') hR3 hf3 k6)
      | exit id => rw [← f2]; exact hQ (.exit id) C3 a2 tm3 hst3 hR3 hf3 k4 (k5.trans hd') k6
      | ret => rw [← f2]; exact hQ .ret C3 a2 tm3 hst3 hR3 hf3 k4 (k5.trans hd') k6
  split at h
  · cases h
  rename_i tm1 H1 hn1
  obtain ⟨C1, e1, e2, hR1, hf1, hst1⟩ := hn.ok (Step.refl C) hR hf hn1 hR
  subst e1
  have goal : Code.rounds P body Q v a C1.w → Code.rounds P body Q v a C.w := by rw [e2]; exact id
  exact goal (key v tm1 C1 a hst1 hs rfl hR1 hf1 h)

end Go.VI
