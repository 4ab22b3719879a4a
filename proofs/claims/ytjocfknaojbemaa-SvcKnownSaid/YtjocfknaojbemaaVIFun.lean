/-
  Functions do what the interpreter says.
-/
import Derived.Test.YtjocfknaojbemaaVICode
namespace Go.VI

variable {P : Program} {E : Env}

theorem wfO_mono {ops : Array Oper} {n m : Nat} (h : n ≤ m) {o : Oper} (ho : wfO ops n o = true) : wfO ops m o = true := by
  unfold wfO at ho ⊢
  simp only [Bool.and_eq_true] at ho ⊢
  refine ⟨?_, ho.2⟩
  have h1 := ho.1
  split
  · rename_i d hd
    rw [hd] at h1
    have h1 := Nat.le_of_ble_eq_true h1
    exact Nat.ble_eq_true_of_le (by omega)
  · rfl
theorem wfC_mono {n m : Nat} (h : n ≤ m) : ∀ (c : Code), wfC n c = true → wfC m c = true
  | .skip, _ => rfl
  | .region _ ops _, hc => by
    simp only [wfC, List.all_eq_true] at hc ⊢
    exact fun o ho => wfO_mono h (hc o ho)
  | .seq a b, hc => by
    simp only [wfC, Bool.and_eq_true] at hc ⊢
    exact ⟨wfC_mono h a hc.1, wfC_mono h b hc.2⟩
  | .cond _ a b, hc => by
    simp only [wfC, Bool.and_eq_true] at hc ⊢
    exact ⟨wfC_mono h a hc.1, wfC_mono h b hc.2⟩
  | .block _ c, hc => by
    simp only [wfC] at hc ⊢
    exact wfC_mono h c hc
  | .loop c, hc => by
    simp only [wfC] at hc ⊢
    exact wfC_mono h c hc
  | .exit _, _ => rfl
  | .ret, _ => rfl
  | .rangeFunc .., _ => rfl
  | .scope _, _ => rfl
  | .label _, _ => rfl
  | .goto _, _ => rfl
  | .refuse _, _ => rfl

/-- What is known of functions and loops is so. -/
structure TabOk (P : Program) (T : Tab) : Prop where
  fns : ∀ g te, T.fns g = some te → ∀ (R : Type) as (C : Cx) k (r : R), Rel C → te R as C.H k = some r → CallOk P g as C k r
  loops : ∀ f body l fn c, T.loops f body = some l → P.funcs[f]? = some fn → fn.body = some c → body ∈ loopsIn c → ∀ (R : Type) n, fn.ntmps ≤ n → LoopOk P n body (l R)

theorem luk_enterTm : ∀ (l : List A) (n t : Nat) (v : A), luk (enterTm n l) t = some v → n ≤ t ∧ l[t - n]? = some v
  | [], _, _, _, h => by cases h
  | a :: r, n, t, v, h => by
    simp only [enterTm] at h
    rw [luk_cons] at h
    split at h
    · rename_i hn
      subst hn
      cases h
      simp
    · rename_i hn
      obtain ⟨h1, h2⟩ := luk_enterTm r (n + 1) t v h
      refine ⟨by omega, ?_⟩
      rw [show t - n = (t - (n + 1)) + 1 by omega]
      exact h2

theorem FR.enter {C : Cx} {as : List A} {vs : Array Value} {m : Nat} (h : VRl C as vs) : FR C (enterTm 0 as) { tmps := vs ++ Array.replicate m undef, defers := [] } := by
  intro t v ht
  obtain ⟨_, h2⟩ := luk_enterTm as 0 t v ht
  have hlt : t < as.length := by
    have := (List.getElem?_eq_some_iff.1 h2).1
    omega
  have hv := h.2 t hlt
  have e1 : as.getD t .bot = v := by
    rw [List.getD_eq_getElem?_getD]
    rw [Nat.sub_zero] at h2
    rw [h2]; rfl
  rw [e1] at hv
  have : (vs ++ Array.replicate m undef).getD t undef = vs.getD t undef := by
    have : t < vs.size := by rw [h.1]; exact hlt
    simp [Array.getD_eq_getD_getElem?, Array.getElem?_append_left this]
  rw [this]
  exact hv

theorem run_asAddr {x : Addr} {w : World} : (asAddr (.pointer (some x))).run P w = .ok x w := rfl

theorem results_sound {C : Cx} {tm : Fr} {a : Act} (hE : EnvOk P E) (hR : Rel C) (hf : FR C tm a) : ∀ (rs : List ResultVar) (l : List A), resultsA E tm C.H rs = some l → ∀ acc : Array Value,
    ∃ vs : List Value, vs.length = l.length ∧ (∀ i, i < l.length → VR C (l.getD i .bot) (vs.getD i undef)) ∧
      (List.foldlM (m := Sem) (fun (bs : Array Value) (r : ResultVar) => (match r with
        | .tmp t => pure (a.tmps.getD t undef)
        | .cell x t => do loadVar t (← asAddr (a.tmps.getD x undef))) >>= fun b => pure (bs.push b)) acc rs).run P C.w = .ok (acc ++ vs.toArray) C.w
  | [], l, h, acc => by
    cases h
    exact ⟨[], rfl, fun i hi => absurd hi (by simp), by simp⟩
  | r :: rs, l, h, acc => by
    simp only [resultsA] at h
    split at h
    · cases h
    rename_i l' hl'
    split at h
    · rename_i t
      cases h
      obtain ⟨vs, h1, h2, h3⟩ := results_sound hE hR hf rs l' hl' (acc.push (a.tmps.getD t undef))
      refine ⟨a.tmps.getD t undef :: vs, by simp [h1], fun i hi => ?_, ?_⟩
      · cases i with
        | zero => exact hf.get t
        | succ i => exact h2 i (by simpa using hi)
      · simp only [List.foldlM_cons, Sem.run_bind, Sem.run_pure, Result.andThen_ok, h3]
        simp
    · rename_i x t
      split at h
      · rename_i i hi
        split at h
        · rename_i cs hc
          obtain ⟨u, hu, he⟩ := Option.map_eq_some_iff.1 h
          cases he
          have hti := hE.ti _ _ hi
          obtain ⟨b, of, c, e, fr, k1, k2, k3, k4, k5⟩ := cellsAt_sound hR (hf.get x) hc
          have hlv := run_loadVar (P := P) hti k2 k3 hu k5
          have hvv := one_VR k4 hu
          generalize hvx : (if i.agg = true then Value.agg ((c.toList.drop of).take i.size).toArray else ((c.toList.drop of).take i.size).getD 0 undef) = vx at hlv hvv
          obtain ⟨vs, h1, h2, h3⟩ := results_sound hE hR hf rs l' hl' (acc.push vx)
          refine ⟨vx :: vs, by simp [h1], fun j hj => ?_, ?_⟩
          · cases j with
            | zero => exact hvv
            | succ j => exact h2 j (by simpa using hj)
          · simp only [List.foldlM_cons, Sem.run_bind, k1, run_asAddr, hlv, Sem.run_pure, Result.andThen_ok, h3]
            simp
        · cases h
      · cases h

theorem resA_VR {C : Cx} {l : List A} {vs : List Value} (h : vs.length = l.length) (hv : ∀ i, i < l.length → VR C (l.getD i .bot) (vs.getD i undef)) :
    VR C (resA l) (if h : vs.toArray.size = 1 then vs.toArray[0] else .tuple vs.toArray) := by
  match l, vs, h with
  | [], [], _ => exact .tup _ _ rfl fun _ h => absurd h (by simp)
  | [x], [v], _ => exact hv 0 (by simp)
  | x :: y :: r, v :: u :: s, h =>
    simp only [resA]
    rw [dif_neg (by simp)]
    refine .tup _ _ (by simpa using h) fun i hi => ?_
    have := hv i hi
    rw [← toList_getD]
    exact this

theorem viF_sound {T : Tab} {u : Nat} (hE : EnvOk P E) (hT : TabOk P T) (R : Type) : ∀ d, CallSound P (fun g as H k => viF (R := R) E T u d g as H k)
  | 0 => fun g as C k r _ h => by cases h
  | d + 1 => fun g as C k r hR h => by
    simp only [viF] at h
    split at h
    case isFalse => cases h
    rename_i hok
    have hwf := hE.ok g hok
    rw [hE.prog] at h
    unfold wfF at hwf
    split at h
    · rename_i fn hfn
      rw [hfn] at hwf
      simp only [Bool.and_eq_true, Bool.not_eq_true'] at hwf
      split at h
      · rename_i c hb
        rw [hb] at hwf
        have hcall : CallSound P (fun g as H1 k1 => match T.fns g with | some te => te R as H1 k1 | none => viF E T u d g as H1 k1) := fun g as C k r hR h => by
          dsimp only at h
          split at h
          · rename_i te hte
            exact hT.fns g te hte R as C k r hR h
          · exact viF_sound hE hT R d g as C k r hR h
        refine ⟨⟨fn, hfn, by simp [hb], hwf.1⟩, fun vs hvs => calls_of_wp hfn hb ?_⟩
        have hsz : fn.ntmps ≤ (vs ++ Array.replicate (fn.ntmps - vs.size) undef).size := by simp; omega
        refine viC_sound (n := (vs ++ Array.replicate (fn.ntmps - vs.size) undef).size) hE hcall c (fun body hbd l hl => ?_) (wfC_mono hsz c hwf.2) rfl hR (FR.enter hvs) h fun e C' a' tm' h1 h2 h3 h4 h5 h6 => ?_
        · split at hl
          · rename_i l0 hl0
            cases hl
            exact hT.loops g body l0 fn c hl0 hfn hb hbd R _ hsz
          · cases hl
        · have main : (match resultsA E tm' C'.H fn.results.toList with
              | some l => k (resA l) C'.H
              | none => none) = some r → a'.defers = [] ∧ ∃ v, (results fn a'.tmps).run P C'.w = .ok v C'.w ∧ ∃ C2 x, C2.w = C'.w ∧ VR C2 x v ∧ Rel C2 ∧ Step C C2 ∧ k x C2.H = some r := fun hk => by
            split at hk
            · rename_i l hl
              obtain ⟨ws, w1, w2, w3⟩ := results_sound hE h2 h3 fn.results.toList l hl #[]
              refine ⟨h5, _, ?_, C', resA l, rfl, resA_VR w1 w2, h2, h1, hk⟩
              unfold results
              rw [Array.mapM_eq_foldlM, ← Array.foldlM_toList]
              simp only [Sem.run_bind]
              have w3' := w3
              simp only [Array.empty_append] at w3'
              erw [w3']
              simp only [Result.andThen_ok, Sem.run_pure]
            · cases hk
          cases e with
          | norm => exact main h6
          | exit id => cases h6
          | ret => exact main h6
      · cases h
    · cases h

end Go.VI
