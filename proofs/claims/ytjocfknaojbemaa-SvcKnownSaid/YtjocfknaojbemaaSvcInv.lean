/-
  The machines' steps keep what holds of all machines; the program's are the document's.
-/
import Derived.Test.YtjocfknaojbemaaSvcPlay
namespace Go.VI.Svc
open Go.Proofs

def InF (f : Fi) : Prop := In64 f.ag ∧ In64 f.up ∧ In64 f.dn
/-- What holds of any machine that came to be. -/
def Inv (x : St) : Prop := (1 ≤ x.s ∧ x.s ≤ 5) ∧ (x.b = true → 2 ≤ x.s ∧ x.s ≤ 4) ∧ In64 x.d ∧ (x.s = 3 → x.d = 9223372036854775807) ∧ (x.s = 2 ∨ x.s = 4 → x.b = true)

theorem inf_in : In64 9223372036854775807 := by constructor <;> decide
theorem later_in {t s : Int} (ht : In64 t) (hs : In64 s) : In64 (laterV t s) := by
  have hs' : In64 (br (ilt 0 s) s 0) := by
    rw [br_eq, ilt_eq]
    split
    · exact hs
    · constructor <;> decide
  obtain ⟨-, e2⟩ := add_spec ht hs'
  unfold laterV
  rw [e2, br_eq]
  split
  · exact inf_in
  · split
    · assumption
    · constructor <;> decide

theorem start_same {f : Fi} {x : St} {now : Int} (hf : InF f) (hn : In64 now) {X : Type} (K : Ou → Bool → St → X) : startT laterW f x now K = startT laterV f x now K := by
  simp only [startT, later_same hn hf.2.1]
theorem stop_same {f : Fi} {x : St} {now : Int} (hf : InF f) (hn : In64 now) {X : Type} (K : Ou → Bool → St → X) : stopT laterW f x now K = stopT laterV f x now K := by
  simp only [stopT, later_same hn hf.2.2]
theorem exit_same {f : Fi} {x : St} {code now : Int} (hf : InF f) (hn : In64 now) {X : Type} (K : Ou → St → X) : exitT laterW f x code now K = exitT laterV f x code now K := by
  simp only [exitT, endsT, later_same hn hf.1]
theorem tick_same {f : Fi} {x : St} {now : Int} (hf : InF f) (hn : In64 now) {X : Type} (K : Ou → St → X) : tickT laterW f x now K = tickT laterV f x now K := by
  simp only [tickT, later_same hn hf.2.2]

theorem startW_is {f : Fi} {x : St} {now : Int} (hf : InF f) (hn : In64 now) : startWF f x now = startCF f x now := by
  simp only [startWF, startCF, startO, startE, startS, start_same hf hn]
theorem stopW_is {f : Fi} {x : St} {now : Int} (hf : InF f) (hn : In64 now) : stopWF f x now = some (stopO laterV f x now, stopS laterV f x now) := by
  simp only [stopWF, stopO, stopS, stop_same hf hn]
theorem exitW_is {f : Fi} {x : St} {code now : Int} (hf : InF f) (hn : In64 now) : exitWF f x code now = some (exitO laterV f x code now, exitS laterV f x code now) := by
  simp only [exitWF, exitO, exitS, exit_same hf hn]
theorem tickW_is {f : Fi} {x : St} {now : Int} (hf : InF f) (hn : In64 now) : tickWF f x now = some (tickO laterV f x now, tickS laterV f x now) := by
  simp only [tickWF, tickO, tickS, tick_same hf hn]
theorem exitC_is {f : Fi} {x : St} {code now : Int} (h : Inv x) : exitCF f x code now = some (exitO laterV f x code now, exitS laterV f x code now) := by
  obtain ⟨⟨h1, h2⟩, h3, -⟩ := h
  unfold exitCF
  have : (okS x.s && br x.b (ile 2 x.s && ile x.s 4) true) = true := by
    simp only [okS, ile_eq, Bool.and_eq_true, decide_eq_true_eq]
    refine ⟨⟨h1, h2⟩, ?_⟩
    cases hb : x.b with
    | false => rfl
    | true => simp only [br, Bool.and_eq_true, decide_eq_true_eq]; exact h3 hb
  rw [this]; rfl
theorem tickC_is {f : Fi} {x : St} {now : Int} (h : Inv x) : tickCF f x now = some (tickO laterV f x now, tickS laterV f x now) := by
  obtain ⟨⟨h1, h2⟩, h3, h4, h5, -⟩ := h
  unfold tickCF
  have : (okS x.s && br (br (ieq x.d 9223372036854775807) true (ilt now x.d)) true (!ieq x.s 3)) = true := by
    simp only [okS, ile_eq, Bool.and_eq_true, decide_eq_true_eq]
    refine ⟨⟨h1, h2⟩, ?_⟩
    by_cases hs : x.s = 3
    · rw [h5 hs]; rfl
    · rw [ieq_eq x.s 3, decide_eq_false hs, br_eq]; split <;> rfl
  rw [this]; rfl

/-- Results are small numbers. -/
def SmallR (o : Ou) : Prop := 0 ≤ o.r ∧ o.r ≤ 5
theorem small_in {n : Int} (h : 0 ≤ n ∧ n ≤ 5) : wrapK .i64 n = n := by
  rw [wrap64]; omega
theorem isF_self {o : Ou} (h : SmallR o) : isF o o = true := by
  simp only [isF, decide_true, br, small_in h, ieq_self]

theorem Inv.of {s : Int} {b : Bool} {d : Int} {lt : Bool} (h1 : 1 ≤ s ∧ s ≤ 5) (h2 : b = true → 2 ≤ s ∧ s ≤ 4) (h3 : In64 d) (h4 : s = 3 → d = 9223372036854775807) (h5 : s = 2 ∨ s = 4 → b = true) : Inv ⟨s, b, d, lt⟩ := ⟨h1, h2, h3, h4, h5⟩
theorem start_keeps {f : Fi} {x : St} {now : Int} (hf : InF f) (hn : In64 now) (h : Inv x) : SmallR (startO laterV f x now) ∧ Inv (startS laterV f x now) := by
  obtain ⟨⟨h1, h2⟩, h3, h4, h5, h6⟩ := h
  have hl := later_in hn hf.2.1
  simp only [startO, startS, startT]
  generalize br (!ieq f.fk 1) true (br (ieq f.ty 2) f.ne false) = c4
  simp only [br_eq, ieq_eq, decide_eq_true_eq]
  split
  · exact ⟨⟨by decide, by decide⟩, ⟨h1, h2⟩, h3, h4, h5, h6⟩
  split
  · exact ⟨⟨by decide, by decide⟩, ⟨h1, h2⟩, h3, h4, h5, h6⟩
  split
  · exact ⟨⟨by decide, by decide⟩, ⟨h1, h2⟩, h3, h4, h5, h6⟩
  split
  · exact ⟨⟨by decide, by decide⟩, Inv.of (by decide) (fun _ => by decide) inf_in (fun _ => rfl) (fun h => absurd h (by decide))⟩
  split
  · exact ⟨⟨by decide, by decide⟩, Inv.of (by decide) (fun _ => by decide) inf_in (fun _ => rfl) (fun h => absurd h (by decide))⟩
  split
  · exact ⟨⟨by decide, by decide⟩, Inv.of (by decide) (fun _ => by decide) hl (fun h => absurd h (by decide)) (fun _ => rfl)⟩
  · exact ⟨⟨by decide, by decide⟩, Inv.of (by decide) (fun _ => by decide) hn (fun h => absurd h (by decide)) (fun _ => rfl)⟩
theorem stop_keeps {f : Fi} {x : St} {now : Int} (hf : InF f) (hn : In64 now) (h : Inv x) : SmallR (stopO laterV f x now) ∧ Inv (stopS laterV f x now) ∧ stopE laterV f x now = true := by
  obtain ⟨⟨h1, h2⟩, h3, h4, h5, h6⟩ := h
  have hl := later_in hn hf.2.2
  simp only [stopO, stopS, stopE, stopT, br_eq, ieq_eq, decide_eq_true_eq]
  split
  · exact ⟨⟨by decide, by decide⟩, ⟨⟨h1, h2⟩, h3, h4, h5, h6⟩, rfl⟩
  split
  · rename_i hb
    have hb : x.b = false := by simpa using hb
    exact ⟨⟨by decide, by decide⟩, Inv.of (by decide) (fun h => by rw [hb] at h; cases h) inf_in (fun h => absurd h (by decide)) (fun h => absurd h (by decide)), rfl⟩
  · rename_i hb
    have hb : x.b = true := by simpa using hb
    exact ⟨⟨by decide, by decide⟩, Inv.of (by decide) (fun _ => by decide) hl (fun h => absurd h (by decide)) (fun _ => hb), rfl⟩
theorem exit_keeps {f : Fi} {x : St} {code now : Int} (hf : InF f) (hn : In64 now) (h : Inv x) : SmallR (exitO laterV f x code now) ∧ Inv (exitS laterV f x code now) := by
  obtain ⟨⟨h1, h2⟩, h3, h4, h5, h6⟩ := h
  have hl := later_in hn hf.1
  simp only [exitO, exitS, exitT, endsT]
  generalize br (ieq f.ty 2) (ieq code 0) false = c4
  simp only [br_eq, ieq_eq, decide_eq_true_eq]
  repeat' split
  all_goals first
    | exact ⟨⟨by decide, by decide⟩, ⟨h1, h2⟩, h3, h4, h5, h6⟩
    | exact ⟨⟨by decide, by decide⟩, Inv.of (by decide) (fun h => Bool.noConfusion h) inf_in (fun _ => rfl) (fun h => absurd h (by decide))⟩
    | exact ⟨⟨by decide, by decide⟩, Inv.of (by decide) (fun h => Bool.noConfusion h) hl (fun h => absurd h (by decide)) (fun h => absurd h (by decide))⟩
theorem tick_keeps {f : Fi} {x : St} {now : Int} (hf : InF f) (hn : In64 now) (h : Inv x) : SmallR (tickO laterV f x now) ∧ Inv (tickS laterV f x now) := by
  obtain ⟨⟨h1, h2⟩, h3, h4, h5, h6⟩ := h
  have hl := later_in hn hf.2.2
  simp only [tickO, tickS, tickT]
  generalize br (ieq x.d 9223372036854775807) true (ilt now x.d) = c4
  simp only [br_eq, ieq_eq, decide_eq_true_eq]
  split
  · exact ⟨⟨by decide, by decide⟩, ⟨h1, h2⟩, h3, h4, h5, h6⟩
  split
  · rename_i hs
    split
    · exact ⟨⟨by decide, by decide⟩, Inv.of (by decide) (fun _ => by decide) inf_in (fun _ => rfl) (fun h => absurd h (by decide))⟩
    · exact ⟨⟨by decide, by decide⟩, Inv.of (by decide) (fun _ => by decide) hl (fun h => absurd h (by decide)) (fun _ => h6 (.inl hs))⟩
  · split
    · split <;> exact ⟨⟨by decide, by decide⟩, Inv.of (by decide) (fun h => Bool.noConfusion h) inf_in (fun h => absurd h (by decide)) (fun h => absurd h (by decide))⟩
    · exact ⟨⟨by decide, by decide⟩, Inv.of ⟨h1, h2⟩ h3 inf_in (fun _ => rfl) h6⟩

/-- What is known of all calls of both machines. -/
theorem all_is {f : Fi} {x : St} {code now : Int} (hf : InF f) (hn : In64 now) (h : Inv x) :
    (startCF f x now = some (startO laterV f x now, startE laterV f x now, startS laterV f x now) ∧ startWF f x now = some (startO laterV f x now, startE laterV f x now, startS laterV f x now)) ∧
    (stopCF f x now = some (stopO laterV f x now, true, stopS laterV f x now) ∧ stopWF f x now = some (stopO laterV f x now, stopS laterV f x now)) ∧
    (exitCF f x code now = some (exitO laterV f x code now, exitS laterV f x code now) ∧ exitWF f x code now = some (exitO laterV f x code now, exitS laterV f x code now)) ∧
    (tickCF f x now = some (tickO laterV f x now, tickS laterV f x now) ∧ tickWF f x now = some (tickO laterV f x now, tickS laterV f x now)) := by
  refine ⟨⟨rfl, startW_is hf hn⟩, ⟨?_, stopW_is hf hn⟩, ⟨exitC_is h, exitW_is hf hn⟩, ⟨tickC_is h, tickW_is hf hn⟩⟩
  show some (_, stopE laterV f x now, _) = _
  rw [(stop_keeps hf hn h).2.2]

end Go.VI.Svc
