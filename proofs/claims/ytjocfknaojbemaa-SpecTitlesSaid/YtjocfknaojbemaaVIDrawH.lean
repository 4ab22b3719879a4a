/-
  A region whose order is drawn, from its start.
-/
import Derived.Test.YtjocfknaojbemaaVIDrawG
namespace Go.VI

variable {P : Program} {E : Env} {R : Type}

theorem drawK_sound {id n : Nat} {ops : Array Oper} {call : CallK R} {tm : Fr} {C : Cx} {a : Act} {K : Fr → Heap → Option R} {r : R} {Q : Exit → Act → World → Prop} (hE : EnvOk P E) (hc : CallSound P call) (hwf : ∀ o ∈ ops.toList, wfO ops n o = true)
    (hs : a.tmps.size = n) (hR : Rel C) (hf : FR C tm a) (h : drawK E call ops tm C.H K = some r)
    (hQ : ∀ (C' : Cx) a' tm', Step C C' → Rel C' → FR C' tm' a' → a'.tmps.size = n → a'.defers = a.defers → K tm' C'.H = some r → Q .normal a' C'.w) : (Code.region id ops true).wp P Q a C.w := by
  unfold drawK at h
  simp only at h
  cases hok : (okPl ops ops.toList (mkPl ops.toList) (effects (mkPl ops.toList)) && E.P.follows .mixedOrders) with
  | false => rw [hok] at h; cases h
  | true =>
  rw [hok] at h
  simp only [cond_true] at h
  rw [Bool.and_eq_true] at hok
  rw [hE.prog] at hok
  have hp := okPl_ok hok.1
  generalize mkPl ops.toList = ps at hp h
  generalize effects ps = m at hp h
  refine wp_region_any hok.2 ?_
  let C1 : Cx := { w := { C.w with drawn := C.w.drawn + 1 }, H := ⟨C.H.next + ops.toList.length, C.H.bs⟩, ρ := C.ρ, η := C.η, hid := C.hid }
  have own1 : ∀ b, C1.own b → C.own b := fun b hb => by
    rcases hb with hb | ⟨n, x, hx, hr, hbo⟩
    · exact .inl hb
    · exact .inr ⟨n, x, hx, hr, by rw [← hbo]; cases x <;> rfl⟩
  have hst : Step C C1 := {
    next := Nat.le_add_right _ _, ρ := fun _ _ h => h
    rows := fun _ b g _ h hg => ⟨b, g, h, hg, Nat.le_refl _, fun _ => ⟨rfl, rfl, rfl⟩⟩
    size := Nat.le_refl _, frame := fun _ _ _ => rfl
    own := fun b hb => .inl (own1 b hb)
    hid := fun _ h => h, dead := fun _ _ h => ⟨h, rfl⟩, hframe := fun _ _ _ => rfl
    os := rfl, tape := rfl, output := rfl }
  have bo : ∀ n x, blockOf C1 n x = blockOf C n x := fun n x => by cases x <;> rfl
  have hR1 : Rel C1 := {
    names := fun n hn => hR.names n (Nat.le_trans (Nat.le_add_right _ _) hn)
    blocks := fun n x hx => (hR.blocks n x hx).keep hst rfl fun _ _ _ h => h
    dist := fun i j x y b hx hy hr h1 h2 => hR.dist i j x y b hx hy hr (by rw [← bo]; exact h1) (by rw [← bo]; exact h2)
    hid := fun b hb => ⟨(hR.hid b hb).1, fun n x hx hbo => (hR.hid b hb).2 n x hx (by rw [← bo]; exact hbo)⟩ }
  have hlen : ops.toList.length = ops.size := by simp
  unfold drawnK at h
  obtain ⟨tm1, k1, k2, k3⟩ := bindK_spec hp ops.toList ps 0 _ (fun j => by simp) (fun j => by simp) h
  have none' : ∀ i, ¬ Ld (Array.replicate ops.size false) i := fun i h => by
    simp only [Ld, Array.getD_eq_getD_getElem?] at h
    by_cases hi : i < ops.size
    · simp [hi] at h
    · simp [hi] at h
  refine drawn_sound (C0 := C) (a0 := a) (nm0 := C.H.next) hE hc hp hR (Nat.le_refl _) hwf hQ ops.size m 0 _ tm1 C1 a (by omega) (by simp [unl]) ?_ k3 k1
  exact {
    size := by simp
    closed := fun h _ _ => absurd h (none' _)
    done := fun _ _ h => absurd h (by omega)
    only := fun h _ => absurd h (none' _)
    tmps := hs
    defers := rfl
    rel := hR1
    step := hst
    next := by show _ ≤ C.H.next + ops.toList.length; rw [hlen]; exact Nat.le_refl _
    vals := fun h _ _ => absurd h (none' _)
    rest := fun t ht => by
      rw [k2 t fun j o _ _ ho _ _ _ => ht j o ho]
      exact (hf.get t).keep hst
    un := fun i _ _ => (hR.names _ (Nat.le_add_right _ _)).2
    rn := fun i _ _ => (hR.names _ (Nat.le_add_right _ _)).1
    inj := fun i j b _ _ h1 _ => by rw [show C1.ρ (C.H.next + i) = C.ρ (C.H.next + i) from rfl, (hR.names _ (Nat.le_add_right _ _)).2] at h1; cases h1
    bd := fun i b _ h1 => by rw [show C1.ρ (C.H.next + i) = C.ρ (C.H.next + i) from rfl, (hR.names _ (Nat.le_add_right _ _)).2] at h1; cases h1
    hidn := fun h _ _ _ _ _ _ => absurd h (none' _) }

end Go.VI
