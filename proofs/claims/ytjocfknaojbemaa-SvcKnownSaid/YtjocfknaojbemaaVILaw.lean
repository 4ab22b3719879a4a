/-
  A law's row: the call returns true and leaves all blocks alone; so its arguments read as before.
-/
import Derived.Test.YtjocfknaojbemaaVIArgs
import Derived.ChangeSame
import Derived.ChangeOld
import Derived.ChangeBears
import Derived.ReadAgain
import Derived.RowKit
namespace Go.VI

variable {P : Program}

/-- A world of which nothing is one's own. -/
def start (W : World) : Cx := { w := W, H := ⟨0, []⟩, ρ := fun _ => none, η := fun _ => none, hid := fun _ => False }
theorem start_own {W : World} {b : Nat} : ¬ (start W).own b := by
  rintro (h | ⟨n, x, hx, _, _⟩)
  · exact h
  · cases hx
theorem start_rel (W : World) : Rel (start W) where
  names _ _ := ⟨rfl, rfl⟩
  blocks _ _ h := by cases h
  dist _ _ _ _ _ h := by cases h
  hid _ h := h.elim

/-- All old blocks stay. -/
def Quiet (W w' : World) : Prop := (∀ b, b < W.heap.size → w'.heap[b]? = W.heap[b]?) ∧ W.heap.size ≤ w'.heap.size ∧ w'.os = W.os ∧ w'.output = W.output

theorem law_calls {E : Env} {T : Tab} {u d : Nat} (hE : EnvOk P E) (hT : TabOk P T) {g : FuncId} {as : List A} (h : viF E T u d g as ⟨0, []⟩ (fun v _ => some v) = some (.bool true)) {W : World} {vs : Array Value} (hv : VRl (start W) as vs) :
    Calls P g vs W fun e w' => e = .returned (.bool true) ∧ Quiet W w' := by
  obtain ⟨-, h2⟩ := viF_sound hE hT A d g as (start W) (fun v _ => some v) (.bool true) (start_rel W) h
  refine (h2 vs hv).mono fun e w' he => ?_
  cases e with
  | returned v =>
    obtain ⟨C', x, rfl, hvr, -, hst, hx⟩ := he
    cases hx
    cases hvr
    exact ⟨rfl, fun b hb => hst.frame b hb start_own, hst.size, hst.os, hst.output⟩
  | panicked ch => exact he.elim
  | outgrown => exact he.elim

theorem Quiet.same {W w' : World} (h : Quiet W w') {p : MemPlace} (hp : p.block < W.heap.size) : W.sameAt w' p := by
  have := h.1 p.block hp
  cases p with
  | cell b i => simp only [MemPlace.block] at this; simp only [World.sameAt, World.cell?, this]
  | map b => exact this

theorem Quiet.kept {W w' : World} (h : Quiet W w') (may : MemPlace → Prop) : W.keptBut w' may := by
  refine ⟨h.2.2.1, h.2.2.2, fun i hi => ?_⟩
  rw [h.1 i hi]
  have := (World.keptBut_refl W may).2.2 i hi
  exact this

variable {H : Type} {enc' : TypeId × Value → H}

theorem carry_all {W w' : World} {base : Nat} {spare : Nat → Bool} {held : Bool} : ∀ {ts : List TypeId} {vs : List Value} {ds : List (DataW H)} {ps : List MemPlace}, DataW.TrodAll enc' P W base spare held ts vs ds ps → (∀ p ∈ ps, W.sameAt w' p) → DataW.TrodAll enc' P w' base spare held ts vs ds ps
  | [], [], [], _, h, _ => h
  | _ :: _, _ :: _, _ :: _, _, ⟨p, q, ⟨n, h1⟩, h2, e⟩, hs => ⟨p, q, ⟨n, DataW.trod_carry n _ _ _ h1 fun x hx => hs x (by rw [e]; exact List.mem_append_left _ hx)⟩, carry_all h2 fun x hx => hs x (by rw [e]; exact List.mem_append_right _ hx), e⟩

/-- What a law's row asks behind the call. -/
theorem law_post (hl : laidOutB P = true) (hm : mapsRowed P = true) (hz : ((List.range P.types.size).all fun t => match P.underlying t with | some (.slice e) => decide (0 < P.cellsOf e) | _ => true) = true)
    {f : Func} {s : ChangeSpec} {t : TypeId} (hr : f.resultTypes = #[t]) (ht : P.underlying t = some .bool) (hvars : s.vars = []) {W w' : World} {args : Array Value} {ds gs : List (DataW H)} {before : List MemPlace}
    (hp : ∀ t ∈ f.params.toList, t < P.types.size)
    (hW : DataW.Whole enc' P f.params.toList s.vars false W args.toList ds gs before) (hres : (s.fn H (ds ++ gs)).results = [.lit (.bool true)]) (hargs : (s.fn H (ds ++ gs)).args = ds) (hvs : (s.fn H (ds ++ gs)).vars = [])
    (hq : Quiet W w') : s.post enc' P f false true false false W args (.bool true) w' := by
  have hW' := hW
  obtain ⟨p, q, hA, hV, rfl, -, -⟩ := hW
  rw [hvars] at hV
  have hV' := hV
  cases gs with
  | cons g r => simp [DataW.TrodVars] at hV
  | nil =>
  simp only [DataW.TrodVars] at hV
  subst hV
  have hlt := DataW.TrodAll.lt hA
  have hsm : ∀ x ∈ p, W.sameAt w' x := fun x hx => hq.same (hlt x hx)
  refine ⟨ds, [], p ++ [], [], p, [], hW', ?_, ?_, ?_, hq.kept _, fun h => by cases h⟩
  · rw [hres, hr]
    exact ⟨[], [], ⟨1, by unfold DataW.trod; rw [ht]; rfl⟩, rfl, rfl⟩
  · rw [hargs]
    exact (carry_all hA hsm).respare (kids_rows hl hm) (slices_full_of P hz) hp fun x hx => by simpa using hlt x hx
  · rw [hvars, hvs]
    rfl

end Go.VI
