/-
  Calls that are given some of the call's own blocks, and see no others: reckoned over those blocks alone.
-/
import Derived.Test.YtjocfknaojbemaaVIPure
namespace Go.VI

variable {P : Program}

/-- The place of a name in a list. -/
def idxN : List Nat → Nat → Option Nat
  | [], _ => none
  | m :: r, n => bif Nat.beq m n then some 0 else (match idxN r n with | some i => some (i + 1) | none => none)
theorem idxN_get : ∀ {l : List Nat} {n i : Nat}, idxN l n = some i → l[i]? = some n
  | [], _, _, h => by cases h
  | m :: r, n, i, h => by
    simp only [idxN] at h
    cases hb : Nat.beq m n with
    | true =>
      rw [hb] at h
      cases h
      simp [Nat.eq_of_beq_eq_true hb]
    | false =>
      rw [hb] at h
      simp only [cond_false] at h
      split at h
      · rename_i j hj
        cases h
        simpa using idxN_get hj
      · cases h

/-- A value, under the local names. -/
def renA (ns : List Nat) : A → Option A
  | .ptr n o => match idxN ns n with
    | some i => some (.ptr i o)
    | none => none
  | a => if pureA a then some a else none
def renL (ns : List Nat) : List A → Option (List A)
  | [] => some []
  | a :: r => match renA ns a, renL ns r with
    | some b, some s => some (b :: s)
    | _, _ => none

/-- The blocks, under the local names. -/
def takeH : Nat → List Nat → Heap → Option (List (Nat × Blk))
  | _, [], _ => some []
  | i, n :: r, H => match H.get n with
    | some (.cells true cs) => if pureL cs then (match takeH (i + 1) r H with
      | some l => some ((i, .cells true cs) :: l)
      | none => none) else none
    | _ => none
/-- The blocks, back under their own names. -/
def backH : Nat → List Nat → Heap → Heap → Option Heap
  | _, [], _, H => some H
  | i, n :: r, L, H => match L.get i with
    | some (.cells true cs) => if pureL cs then backH (i + 1) r L (H.set n (.cells true cs)) else none
    | _ => none
def ptrs : List A → List Nat
  | [] => []
  | .ptr n _ :: r => (match idxN (ptrs r) n with | some _ => ptrs r | none => n :: ptrs r)
  | _ :: r => ptrs r

theorem ptrs_nodup : ∀ (l : List A), (ptrs l).Nodup
  | [] => List.nodup_nil
  | a :: r => by
    cases a <;> first | exact ptrs_nodup r | skip
    rename_i n o
    simp only [ptrs]
    split
    · exact ptrs_nodup r
    · rename_i h
      refine List.nodup_cons.2 ⟨fun hm => ?_, ptrs_nodup r⟩
      have key : ∀ {l : List Nat} {n : Nat}, n ∈ l → idxN l n ≠ none := by
        intro l
        induction l with
        | nil => intro n hm; cases hm
        | cons m l ih =>
          intro n hm
          simp only [idxN]
          cases hb : Nat.beq m n with
          | true => simp
          | false =>
            simp only [cond_false]
            rcases List.mem_cons.1 hm with rfl | hm
            · simp at hb
            · have := ih hm
              split
              · simp
              · rename_i h; exact absurd h this
      exact key hm h

/-- A contract: what a function comes to, over the blocks that it is given. -/
def localTE (E : Env) (T : Tab) (u d : Nat) (g : FuncId) : TE := fun R as H k =>
  match renL (ptrs as) as, takeH 0 (ptrs as) H with
  | some as1, some l => viF (R := R) E T u d g as1 ⟨(ptrs as).length, l⟩ (fun v L => if pureA v then (match backH 0 (ptrs as) L H with
    | some H1 => k v H1
    | none => none) else none)
  | _, _ => none

theorem takeH_spec : ∀ {ns : List Nat} {i : Nat} {H : Heap} {l : List (Nat × Blk)}, takeH i ns H = some l →
    (∀ j n, ns[j]? = some n → ∃ cs, H.get n = some (.cells true cs) ∧ pureL cs = true ∧ luk l (i + j) = some (.cells true cs)) ∧ ∀ t b, luk l t = some b → i ≤ t ∧ ∃ n, ns[t - i]? = some n
  | [], i, H, l, h => by
    cases h
    exact ⟨fun j n h => by simp at h, fun t b h => by cases h⟩
  | n :: r, i, H, l, h => by
    simp only [takeH] at h
    split at h
    · rename_i cs hg
      split at h
      · rename_i hp
        split at h
        · rename_i l' hl
          cases h
          obtain ⟨h1, h2⟩ := takeH_spec hl
          refine ⟨fun j m hj => ?_, fun t b ht => ?_⟩
          · cases j with
            | zero =>
              simp at hj
              subst hj
              exact ⟨cs, hg, hp, by rw [luk_cons, if_pos (by omega)]⟩
            | succ j =>
              obtain ⟨cs', k1, k2, k3⟩ := h1 j m (by simpa using hj)
              refine ⟨cs', k1, k2, ?_⟩
              rw [luk_cons, if_neg (by omega), show i + (j + 1) = i + 1 + j by omega]
              exact k3
          · rw [luk_cons] at ht
            split at ht
            · rename_i he
              subst he
              exact ⟨Nat.le_refl _, n, by simp⟩
            · obtain ⟨h3, m, h4⟩ := h2 t b ht
              refine ⟨by omega, m, ?_⟩
              rw [show t - i = (t - (i + 1)) + 1 by omega]
              simpa using h4
        · cases h
      · cases h
    · cases h

theorem backH_spec : ∀ {ns : List Nat} {i : Nat} {L H H1 : Heap}, ns.Nodup → backH i ns L H = some H1 →
    H1.next = H.next ∧ (∀ n, n ∉ ns → H1.get n = H.get n) ∧ ∀ j n, ns[j]? = some n → ∃ cs, L.get (i + j) = some (.cells true cs) ∧ pureL cs = true ∧ H1.get n = some (.cells true cs)
  | [], i, L, H, H1, _, h => by
    cases h
    exact ⟨rfl, fun _ _ => rfl, fun j n h => by simp at h⟩
  | n :: r, i, L, H, H1, hn, h => by
    simp only [backH] at h
    split at h
    · rename_i cs hg
      split at h
      · rename_i hp
        obtain ⟨hn1, hn2⟩ := List.nodup_cons.1 hn
        obtain ⟨h1, h2, h3⟩ := backH_spec hn2 h
        refine ⟨h1, fun m hm => ?_, fun j m hj => ?_⟩
        · rw [h2 m (fun h => hm (List.mem_cons_of_mem _ h)), get_set, if_neg (fun e => hm (by rw [e]; simp))]
        · cases j with
          | zero =>
            simp at hj
            subst hj
            exact ⟨cs, hg, hp, by rw [h2 n hn1, get_set, if_pos rfl]⟩
          | succ j =>
            obtain ⟨cs', k1, k2, k3⟩ := h3 j m (by simpa using hj)
            exact ⟨cs', by rw [show i + (j + 1) = i + 1 + j by omega]; exact k1, k2, k3⟩
      · cases h
    · cases h

/-- The world, as one sees it who has some blocks alone. -/
def Cx.part (C : Cx) (ns : List Nat) (l : List (Nat × Blk)) : Cx where
  w := C.w
  H := ⟨ns.length, l⟩
  ρ := fun i => (ns[i]?).bind C.ρ
  η := fun _ => none
  hid := fun b => C.own b ∧ ∀ n ∈ ns, C.ρ n ≠ some b

theorem localTE_ok {E : Env} {T : Tab} {u d : Nat} (hE : EnvOk P E) (hT : TabOk P T) {g : FuncId} (R : Type) (as : List A) (C : Cx) (k : A → Heap → Option R) (r : R) (hR : Rel C) (h : localTE E T u d g R as C.H k = some r) : CallOk P g as C k r := by
  unfold localTE at h
  split at h
  case h_2 => cases h
  rename_i as1 l has hl
  generalize hns : ptrs as = ns at h has hl
  have hnd : ns.Nodup := by rw [← hns]; exact ptrs_nodup as
  obtain ⟨t1, t2⟩ := takeH_spec hl
  -- each block
  have hblk : ∀ {j n : Nat}, ns[j]? = some n → ∃ cs b, C.H.get n = some (.cells true cs) ∧ pureL cs = true ∧ luk l j = some (.cells true cs) ∧ C.ρ n = some b ∧ C.own b := fun {j n} hj => by
    obtain ⟨cs, k1, k2, k3⟩ := t1 j n hj
    obtain ⟨b, c, e, fr, h1, _⟩ := hR.blocks n _ k1
    exact ⟨cs, b, k1, k2, by rw [Nat.zero_add] at k3; exact k3, h1, .inr ⟨n, _, k1, rfl, h1⟩⟩
  have hmem : ∀ {n : Nat}, n ∈ ns → ∃ j, ns[j]? = some n := fun {n} hn => by
    obtain ⟨j, hj, rfl⟩ := List.mem_iff_getElem.1 hn
    exact ⟨j, List.getElem?_eq_getElem hj⟩
  have hown : ∀ b, (C.part ns l).own b ↔ C.own b := fun b => by
    constructor
    · rintro (h | ⟨j, x, hx, _, hbo⟩)
      · exact h.1
      · obtain ⟨_, n, hn⟩ := t2 j x hx
        rw [Nat.sub_zero] at hn
        obtain ⟨cs, b', k1, k2, k3, k4, k5⟩ := hblk hn
        have hx : luk l j = some x := hx
        rw [k3] at hx
        cases hx
        have hbo : (ns[j]?).bind C.ρ = some b := hbo
        rw [hn] at hbo
        have hbo : C.ρ n = some b := hbo
        rw [k4] at hbo
        cases hbo
        exact k5
    · intro h
      by_cases hb : ∃ n ∈ ns, C.ρ n = some b
      · obtain ⟨n, hn, hb⟩ := hb
        obtain ⟨j, hj⟩ := hmem hn
        obtain ⟨cs, b', k1, k2, k3, k4, k5⟩ := hblk hj
        refine .inr ⟨j, _, k3, rfl, ?_⟩
        show (ns[j]?).bind C.ρ = some b
        rw [hj]; exact hb
      · exact .inl ⟨h, fun n hn hb' => hb ⟨n, hn, hb'⟩⟩
  have hsame : Same C (C.part ns l) := fun b _ ho => ⟨rfl, fun h => ho ((hown b).1 h)⟩
  have hRl : Rel (C.part ns l) := {
    names := fun j hj => by
      have hj : ns.length ≤ j := hj
      refine ⟨?_, ?_⟩
      · cases hx : luk l j with
        | none => exact hx
        | some x =>
          obtain ⟨_, n, hn⟩ := t2 j x hx
          have := (List.getElem?_eq_some_iff.1 hn).1
          omega
      · show (ns[j]?).bind C.ρ = none
        rw [List.getElem?_eq_none hj]; rfl
    blocks := fun j x hx => by
      obtain ⟨_, n, hn⟩ := t2 j x hx
      rw [Nat.sub_zero] at hn
      obtain ⟨cs, b', k1, k2, k3, k4, k5⟩ := hblk hn
      have hx : luk l j = some x := hx
      rw [k3] at hx
      cases hx
      obtain ⟨b, c, e, fr, h1, h2, h3, h4⟩ := hR.blocks n _ k1
      refine ⟨b, c, e, fr, ?_, h2, ⟨h3.1, fun i hi => (h3.2.1 i hi).shift hsame (pureL_get k2 i hi), h3.2.2⟩, h4⟩
      show (ns[j]?).bind C.ρ = some b
      rw [hn]; exact h1
    dist := fun i j x y b hx hy hr h1 h2 => by
      obtain ⟨_, n, hn⟩ := t2 i x hx
      obtain ⟨_, m, hm⟩ := t2 j y hy
      rw [Nat.sub_zero] at hn hm
      obtain ⟨cs, b1, k1, _, k3, k4, _⟩ := hblk hn
      obtain ⟨cs2, b2, l1, _, l3, l4, _⟩ := hblk hm
      have hx : luk l i = some x := hx
      have hy : luk l j = some y := hy
      rw [k3] at hx; cases hx
      rw [l3] at hy; cases hy
      have h1 : (ns[i]?).bind C.ρ = some b := h1
      have h2 : (ns[j]?).bind C.ρ = some b := h2
      rw [hn] at h1; rw [hm] at h2
      have hnm := hR.dist n m _ _ b k1 l1 rfl h1 h2
      subst hnm
      have hi := (List.getElem?_eq_some_iff.1 hn)
      have hj := (List.getElem?_eq_some_iff.1 hm)
      obtain ⟨hi1, hi2⟩ := hi
      obtain ⟨hj1, hj2⟩ := hj
      exact (List.getElem_inj hnd).1 (hi2.trans hj2.symm)
    hid := fun b hb => ⟨own_lt hR hb.1, fun j x hx hbo => by
      obtain ⟨_, n, hn⟩ := t2 j x hx
      rw [Nat.sub_zero] at hn
      obtain ⟨cs, b1, k1, _, k3, k4, _⟩ := hblk hn
      have hx : luk l j = some x := hx
      rw [k3] at hx; cases hx
      have hbo : (ns[j]?).bind C.ρ = some b := hbo
      rw [hn] at hbo
      exact hb.2 n (List.mem_of_getElem? hn) hbo⟩ }
  obtain ⟨h1, h2⟩ := viF_sound hE hT R d g as1 (C.part ns l) _ r hRl h
  have hren : ∀ {as as1 : List A} {vs : Array Value}, renL ns as = some as1 → VRl C as vs → VRl (C.part ns l) as1 vs := by
    have one : ∀ {x y : A} {v : Value}, renA ns x = some y → VR C x v → VR (C.part ns l) y v := fun {x y v} hx hv => by
      unfold renA at hx
      split at hx
      · rename_i n o
        split at hx
        · rename_i i hi
          cases hx
          cases hv with
          | ptr _ _ b hb =>
            refine .ptr _ _ b ?_
            show (ns[i]?).bind C.ρ = some b
            rw [idxN_get hi]; exact hb
        · cases hx
      · split at hx
        · rename_i hp
          cases hx
          exact hv.shift hsame hp
        · cases hx
    intro as as1 vs hren hv
    have key : ∀ (as as1 : List A), renL ns as = some as1 → as1.length = as.length ∧ ∀ i, i < as.length → renA ns (as.getD i .bot) = some (as1.getD i .bot) := by
      intro as
      induction as with
      | nil => intro as1 h; cases h; exact ⟨rfl, fun i h => absurd h (by simp)⟩
      | cons x r ih =>
        intro as1 h
        simp only [renL] at h
        split at h
        · rename_i b s hb hs
          cases h
          obtain ⟨k1, k2⟩ := ih s hs
          refine ⟨by simp [k1], fun i hi => ?_⟩
          cases i with
          | zero => exact hb
          | succ i => exact k2 i (by simpa using hi)
        · cases h
    obtain ⟨k1, k2⟩ := key as as1 hren
    exact ⟨by rw [hv.1, k1], fun i hi => one (k2 i (by omega)) (hv.2 i (by omega))⟩
  refine ⟨h1, fun vs hvs => (h2 vs (hren has hvs)).mono fun e w' he => ?_⟩
  cases e with
  | returned v =>
    obtain ⟨C', x, hw, hv, hR', hst, hk⟩ := he
    dsimp only at hk
    split at hk
    case isFalse => cases hk
    rename_i hpx
    split at hk
    case h_2 => cases hk
    rename_i H1 hback
    subst hw
    obtain ⟨b1, b2, b3⟩ := backH_spec hnd hback
    have hρ' : ∀ {j n : Nat}, ns[j]? = some n → C'.ρ j = C.ρ n := fun {j n} hj => by
      obtain ⟨cs, b, k1, k2, k3, k4, k5⟩ := hblk hj
      rw [k4]
      exact hst.ρ j b (by show (ns[j]?).bind C.ρ = some b; rw [hj]; exact k4)
    let D : Cx := { C with w := C'.w, H := H1 }
    have bo : ∀ n x, blockOf D n x = blockOf C n x := fun n x => by cases x <;> rfl
    -- what is own, of the old
    have hDown : ∀ b, D.own b → C.own b := fun b hb => by
      rcases hb with hb | ⟨n, x, hx, hr, hbo⟩
      · exact .inl hb
      · by_cases hn : n ∈ ns
        · obtain ⟨j, hj⟩ := hmem hn
          obtain ⟨cs, b', k1, k2, k3, k4, k5⟩ := hblk hj
          obtain ⟨cs', l1, l2, l3⟩ := b3 j n hj
          have hx : H1.get n = some x := hx
          rw [l3] at hx
          cases hx
          have hbo : C.ρ n = some b := hbo
          rw [k4] at hbo; cases hbo
          exact k5
        · have hx : H1.get n = some x := hx
          rw [b2 n hn] at hx
          exact .inr ⟨n, x, hx, hr, by rw [← bo]; exact hbo⟩
    have hDback : ∀ b, C.own b → D.own b := fun b hb => by
      rcases hb with hb | ⟨n, x, hx, hr, hbo⟩
      · exact .inl hb
      · by_cases hn : n ∈ ns
        · obtain ⟨j, hj⟩ := hmem hn
          obtain ⟨cs, b', k1, k2, k3, k4, k5⟩ := hblk hj
          obtain ⟨cs', l1, l2, l3⟩ := b3 j n hj
          rw [k1] at hx
          cases hx
          exact .inr ⟨n, _, l3, rfl, hbo⟩
        · exact .inr ⟨n, x, by show H1.get n = some x; rw [b2 n hn]; exact hx, hr, by rw [bo]; exact hbo⟩
    have hC'own : ∀ b, C.own b → C'.own b := fun b hb => by
      by_cases hx : ∃ n ∈ ns, C.ρ n = some b
      · obtain ⟨n, hn, hb'⟩ := hx
        obtain ⟨j, hj⟩ := hmem hn
        obtain ⟨cs', l1, l2, l3⟩ := b3 j n hj
        rw [Nat.zero_add] at l1
        exact .inr ⟨j, _, l1, rfl, by show C'.ρ j = some b; rw [hρ' hj]; exact hb'⟩
      · exact .inl (hst.hid b ⟨hb, fun n hn hb' => hx ⟨n, hn, hb'⟩⟩)
    have hfr : ∀ b, b < C.w.heap.size → (∀ n ∈ ns, C.ρ n ≠ some b) → C'.w.heap[b]? = C.w.heap[b]? := fun b hb hn => by
      by_cases ho : C.own b
      · exact hst.hframe b hb ⟨ho, hn⟩
      · exact hst.frame b hb fun h => ho ((hown b).1 h)
    have hstep : Step C D := {
      next := by show C.H.next ≤ H1.next; rw [b1]; exact Nat.le_refl _
      ρ := fun _ _ h => h
      rows := fun n x g' hlt hx hg => by
        by_cases hn : n ∈ ns
        · obtain ⟨j, hj⟩ := hmem hn
          obtain ⟨cs', l1, l2, l3⟩ := b3 j n hj
          have hx : H1.get n = some x := hx
          rw [l3] at hx
          cases hx
          cases hg
        · have hx : H1.get n = some x := hx
          rw [b2 n hn] at hx
          exact ⟨x, g', hx, hg, Nat.le_refl _, fun _ => ⟨rfl, rfl, rfl⟩⟩
      size := hst.size
      frame := fun b hb ho => hfr b hb fun n hn hb' => by
        obtain ⟨j, hj⟩ := hmem hn
        obtain ⟨cs, b', k1, k2, k3, k4, k5⟩ := hblk hj
        rw [k4] at hb'; cases hb'
        exact ho k5
      own := fun b hb => .inl (hDown b hb)
      hid := fun _ h => h
      dead := fun n _ hg => by
        by_cases hn : n ∈ ns
        · obtain ⟨j, hj⟩ := hmem hn
          obtain ⟨cs, b', k1, k2, k3, k4, k5⟩ := hblk hj
          rw [k1] at hg; cases hg
        · exact ⟨by show H1.get n = none; rw [b2 n hn]; exact hg, rfl⟩
      hframe := fun b hb hh => hfr b hb fun n hn hb' => by
        obtain ⟨j, hj⟩ := hmem hn
        obtain ⟨cs, b', k1, k2, k3, k4, k5⟩ := hblk hj
        exact (hR.hid b hh).2 n _ k1 (by show C.ρ n = some b; exact hb')
      os := hst.os, tape := hst.tape, output := hst.output }
    have hsm : Same C' D := fun b _ ho => ⟨rfl, fun h => ho (hC'own b (hDown b h))⟩
    refine ⟨D, x, rfl, hv.shift hsm hpx, ?_, hstep, hk⟩
    exact {
      names := fun n hn => by
        have hn : H1.next ≤ n := hn
        rw [b1] at hn
        obtain ⟨k1, k2⟩ := hR.names n hn
        have hnn : n ∉ ns := fun hm => by
          obtain ⟨j, hj⟩ := hmem hm
          obtain ⟨cs, b', l1, _⟩ := hblk hj
          rw [k1] at l1; cases l1
        exact ⟨by show H1.get n = none; rw [b2 n hnn]; exact k1, k2⟩
      blocks := fun n x hx => by
        by_cases hn : n ∈ ns
        · obtain ⟨j, hj⟩ := hmem hn
          obtain ⟨cs', l1, l2, l3⟩ := b3 j n hj
          have hx : H1.get n = some x := hx
          rw [l3] at hx
          cases hx
          rw [Nat.zero_add] at l1
          obtain ⟨b, c, e, fr, m1, m2, m3, m4⟩ := hR'.blocks j _ l1
          rw [hρ' hj] at m1
          exact ⟨b, c, e, fr, m1, m2, ⟨m3.1, fun i hi => (m3.2.1 i hi).shift hsm (pureL_get l2 i hi), m3.2.2⟩, m4⟩
        · have hx : H1.get n = some x := hx
          rw [b2 n hn] at hx
          refine (hR.blocks n x hx).keep hstep rfl fun b o hb ho => ?_
          rw [hfr b (hR.lt hx hb) fun m hm hb' => ?_]
          · exact ho
          · obtain ⟨j, hj⟩ := hmem hm
            obtain ⟨cs, b', k1, k2, k3, k4, k5⟩ := hblk hj
            exact hn (by
              have := hR.dist m n _ x b k1 hx rfl hb' hb
              rw [← this]; exact hm)
      dist := fun n m x y b hx hy hr h1 h2 => by
        rw [bo] at h1 h2
        have conv : ∀ n x, H1.get n = some x → ∃ x', C.H.get n = some x' ∧ rwOf x' = rwOf x ∧ blockOf C n x' = blockOf C n x := fun n x hx => by
          by_cases hn : n ∈ ns
          · obtain ⟨j, hj⟩ := hmem hn
            obtain ⟨cs, b', k1, k2, k3, k4, k5⟩ := hblk hj
            obtain ⟨cs', l1, l2, l3⟩ := b3 j n hj
            rw [l3] at hx; cases hx
            exact ⟨_, k1, rfl, rfl⟩
          · rw [b2 n hn] at hx
            exact ⟨x, hx, rfl, rfl⟩
        obtain ⟨x', p1, p2, p3⟩ := conv n x hx
        obtain ⟨y', q1, q2, q3⟩ := conv m y hy
        exact hR.dist n m x' y' b p1 q1 (p2.trans hr) (p3.trans h1) (q3.trans h2)
      hid := fun b hb => ⟨Nat.lt_of_lt_of_le (hR.hid b hb).1 hst.size, fun n x hx hbo => by
        rw [bo] at hbo
        by_cases hn : n ∈ ns
        · obtain ⟨j, hj⟩ := hmem hn
          obtain ⟨cs, b', k1, k2, k3, k4, k5⟩ := hblk hj
          obtain ⟨cs', l1, l2, l3⟩ := b3 j n hj
          have hx : H1.get n = some x := hx
          rw [l3] at hx; cases hx
          exact (hR.hid b hb).2 n _ k1 hbo
        · have hx : H1.get n = some x := hx
          rw [b2 n hn] at hx
          exact (hR.hid b hb).2 n x hx hbo⟩ }
  | panicked ch => exact he.elim
  | outgrown => exact he.elim

end Go.VI
