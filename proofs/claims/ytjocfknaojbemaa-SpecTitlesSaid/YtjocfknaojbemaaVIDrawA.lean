/-
  What an operation comes to hangs on what it looks at alone.
-/
import Derived.Test.YtjocfknaojbemaaVIReg
namespace Go.VI

variable {P : Program} {E : Env} {R : Type}

theorem optEv_congr {ρ ρ' : Operand → A} {x : Option Operand} (h : ∀ y ∈ x.toArray, ρ y = ρ' y) : optEv ρ x = optEv ρ' x := by
  cases x with
  | none => rfl
  | some y => simp only [optEv]; rw [h y (by simp)]

theorem map_congr' {ρ ρ' : Operand → A} {xs : Array Operand} (h : ∀ y ∈ xs, ρ y = ρ' y) : xs.toList.map ρ = xs.toList.map ρ' :=
  List.map_congr_left fun y hy => h y (by simpa using hy)

theorem parts_congr {ρ ρ' : Operand → A} {ps : Array (Nat × Operand)} (h : ∀ y ∈ (ps.toList.map (·.2)).toArray, ρ y = ρ' y) : (ps.toList.map fun p => (p.1, ρ p.2)) = ps.toList.map fun p => (p.1, ρ' p.2) :=
  List.map_congr_left fun p hp => by rw [h p.2 (by simp; exact ⟨p.1, by simpa using hp⟩)]

theorem opD_congr {ρ ρ' : Operand → A} {H : Heap} {nm : Nat} {o : Oper} (h : ∀ x ∈ o.op.operands, ρ x = ρ' x) : opD E ρ H nm o = opD E ρ' H nm o := by
  obtain ⟨dst, op, type, pos, after, guard⟩ := o
  simp only at h
  unfold opD
  cases op <;> simp only [Op.operands] at h <;> simp only
  case move x => rw [h x (by simp)]
  case assign x => rw [h x (by simp)]
  case pick c a b => rw [h c (by simp), h a (by simp), h b (by simp)]
  case box e x => rw [h x (by simp)]
  case build t ps => rw [parts_congr h]
  case buildSlice t n ps => rw [parts_congr h]
  case load t a => rw [h a (by simp)]
  case store t a v => rw [h a (by simp), h v (by simp)]
  case nilCheck x => rw [h x (by simp)]
  case binOp op t x y ty => rw [h x (by simp), h y (by simp)]
  case unOp op t x => rw [h x (by simp)]
  case convert s d x => rw [h x (by simp)]
  case makeFunc fn f c => rw [map_congr' fun y hy => h y (by simp [hy]), map_congr' fun y hy => h y (by simp [hy])]
  case makeMap t r => rw [optEv_congr h]
  case makeSlice t l c => rw [h l (by simp), h c (by simp)]
  case slice t x lo hi mx =>
    rw [h x (by simp), optEv_congr (x := lo) fun y hy => h y (by simp [hy]), optEv_congr (x := hi) fun y hy => h y (by simp [hy])]
  case fieldAddr s x f => rw [h x (by simp)]
  case field t x f => rw [h x (by simp)]
  case indexAddr t x ix => rw [h x (by simp), h ix (by simp)]
  case index t x ix => rw [h x (by simp), h ix (by simp)]
  case lookup t x ix ok => rw [h x (by simp), h ix (by simp)]
  case mapUpdate t m k v => rw [h m (by simp), h k (by simp), h v (by simp)]
  case insert t m k v => rw [h m (by simp), h k (by simp), h v (by simp)]
  case extract t i => rw [h t (by simp)]
  case call c =>
    have : c.args.toList.map ρ = c.args.toList.map ρ' := map_congr' fun y hy => h y (by simp [Call.operands, hy])
    rw [this]

theorem bigK_congr {ρ ρ' : Operand → A} {H : Heap} {o : Oper} {call : CallK R} {k : A → Heap → Option R} (h : ∀ x ∈ o.op.operands, ρ x = ρ' x) : bigK E call ρ H o k = bigK E call ρ' H o k := by
  unfold bigK
  cases ho : o.op <;> simp only
  rename_i c
  rw [ho] at h
  simp only [Op.operands] at h
  have : c.args.toList.map ρ = c.args.toList.map ρ' := map_congr' fun y hy => h y (by simp [Call.operands, hy])
  rw [this]
  cases hc : c.callee <;> simp only
  rename_i f
  rw [h f (by simp [Call.operands, hc])]

theorem opK_congr {ρ ρ' : Operand → A} {H : Heap} {o : Oper} {call : CallK R} {k : A → Heap → Option R} (h : ∀ x ∈ o.op.operands, ρ x = ρ' x) : opK E call ρ H o k = opK E call ρ' H o k := by
  unfold opK
  rw [opD_congr h, bigK_congr h]

/-- What only reads leaves the heap alone. -/
theorem kind0_heap {ρ : Operand → A} {H H1 : Heap} {nm : Nat} {o : Oper} {ok : Bool} {v : A} (hk : kindO o = 0) (h : opD E ρ H nm o = some (ok, v, H1)) : H1 = H := by
  obtain ⟨dst, op, type, pos, after, guard⟩ := o
  unfold kindO at hk
  unfold opD at h
  cases op <;> simp only at hk h <;> first | (cases hk; done) | skip
  case makeMap t r => cases r <;> cases hk
  case call c =>
    cases hc : c.callee <;> simp only [hc] at hk h <;> first | (cases hk; done) | skip
    rename_i b
    unfold builtinD at h
    cases b <;> simp only at hk h <;> first | (cases hk; done) | skip
    all_goals (repeat' split at h)
    all_goals first
      | (cases h; done)
      | contradiction
      | (obtain ⟨_, _, he⟩ := Option.map_eq_some_iff.1 h; cases he; rfl)
  all_goals (repeat' split at h)
  all_goals first
    | (cases h; rfl)
    | (cases h; done)
    | (obtain ⟨_, _, he⟩ := Option.map_eq_some_iff.1 h; cases he; rfl)

end Go.VI
