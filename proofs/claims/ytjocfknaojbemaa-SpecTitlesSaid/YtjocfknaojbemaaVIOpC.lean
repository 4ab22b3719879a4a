/-
  Each operation does what the interpreter says: part C (numbers, texts, addresses, slices).
-/
import Derived.Test.YtjocfknaojbemaaVIOpB
import Derived.Laws.Strings
import Derived.Laws.StructEq
namespace Go.VI

variable {P : Program} {E : Env} {C : Cx} {a : Act} {ρ : Operand → A}

theorem wrapK_eq (k : IntKind) (n : Int) : wrapK k n = k.wrap n := by cases n <;> rfl
theorem ieq_eq (x y : Int) : ieq x y = decide (x = y) := by
  cases x <;> cases y <;> simp only [ieq]
  · rename_i m n
    rw [Bool.eq_iff_iff, Nat.beq_eq]; simp; omega
  · simp
  · simp
  · rename_i m n
    rw [Bool.eq_iff_iff, Nat.beq_eq]; simp
theorem ile_eq (x y : Int) : ile x y = decide (x ≤ y) := by
  cases x <;> cases y <;> simp only [ile] <;> rw [Bool.eq_iff_iff]
  · rw [Nat.ble_eq]; simp
  · simp; omega
  · simp; omega
  · rw [Nat.ble_eq]; simp; omega
theorem ilt_eq (x y : Int) : ilt x y = decide (x < y) := by
  cases x <;> cases y <;> simp only [ilt] <;> rw [Bool.eq_iff_iff]
  · rw [Nat.ble_eq]; simp; omega
  · simp; omega
  · simp; omega
  · rw [Nat.ble_eq]; simp; omega
theorem br_eq {α : Type} (b : Bool) (x y : α) : br b x y = if b then x else y := by cases b <;> rfl
theorem shlK_eq (k : IntKind) (x y : Int) : shlK k x y = k.wrap (x * 2 ^ (min y.toNat k.bits)) := wrapK_eq _ _
theorem shrK_eq (k : IntKind) (x y : Int) : shrK k x y = x.fdiv (2 ^ (min y.toNat k.bits)) := by
  have h : ((2 : Int) ^ (min y.toNat k.bits)) = Int.ofNat (2 ^ (min y.toNat k.bits)) := by
    rw [Int.ofNat_eq_natCast, Int.natCast_pow]; rfl
  rw [h]
  have hpos : 0 < 2 ^ (min y.toNat k.bits) := Nat.pow_pos (by decide)
  obtain ⟨m, hm⟩ : ∃ m, 2 ^ (min y.toNat k.bits) = m + 1 := ⟨_, (Nat.succ_pred_eq_of_pos hpos).symm⟩
  cases x with
  | ofNat x =>
    simp only [shrK]; rw [show Nat.min y.toNat k.bits = min y.toNat k.bits from rfl, hm]
    cases x with
    | zero => simp
    | succ x => rfl
  | negSucc x => simp only [shrK]; rw [show Nat.min y.toNat k.bits = min y.toNat k.bits from rfl, hm]; rfl
theorem bitsK_eq (op : BinOp) (k : IntKind) (x y : Int) : bitsK op k x y = bitsK.bits0 op k x y := by cases x <;> cases y <;> rfl

theorem kindOf_ptr {d : TypeDesc} (h : TK.ptr = kindOf P d) : ∃ e, d = .pointer e := by
  cases d <;> simp only [kindOf] at h <;> first | (split at h <;> cases h; done) | (cases h; done) | exact ⟨_, rfl⟩
theorem kindOf_bool {d : TypeDesc} (h : TK.bool = kindOf P d) : d = .bool := by
  cases d <;> simp only [kindOf] at h <;> first | (split at h <;> cases h; done) | (cases h; done) | rfl

theorem eqT_sound {x y : A} {vx vy : Value} {t : TypeId} {i : TI} {b : Bool} {w : World} (hi : tiOf P t = some i) (hx : VR C x vx) (hy : VR C y vy) (h : eqT i.kind x y = some b) :
    (Op.equal t vx vy).run P w = .ok b w := by
  obtain ⟨ii, d, h1, h2, h3, _, _, _, _⟩ := tiOf_some hi
  unfold eqT at h
  unfold Op.equal Op.maxDepth Op.equalIn
  split at h <;> first | (cases h; done) | skip
  all_goals
    rename_i hk
    cases h
  · have := kindOf_bool (P := P) (d := d) (by rw [← h3, hk])
    subst this
    cases hx; cases hy
    simp only [Sem.run_bind, run_underlying h2, Result.andThen_ok, Sem.run_pure]
  all_goals
    obtain ⟨e, rfl⟩ := kindOf_ptr (P := P) (d := d) (by rw [← h3, hk])
    cases hx; cases hy
    simp only [Sem.run_bind, run_underlying h2, Result.andThen_ok, Sem.run_pure, Option.isNone_none, Option.isNone_some]

theorem str_toList {s : ByteArray} {l : Str} (h : s.data.toList = l) : s.toList = l ∧ s.size = l.length := by
  subst h
  exact ⟨Go.ByteArray.toList_eq s, by simp⟩

/-- What a comparison or a reckoning comes to. -/
theorem bin_sound {op : BinOp} {t : TypeId} {x y v : A} {vx vy : Value} {w : World} {i : TI} (hi : tiOf P t = some i) (hx : VR C x vx) (hy : VR C y vy) (h : binD i.kind op x y = some (true, v)) :
    ∃ cv, (binOp op t vx vy).run P w = .ok cv w ∧ VR C v cv := by
  unfold binD at h
  split at h
  · -- shl
    simp only [Option.some.injEq, Prod.mk.injEq] at h
    obtain ⟨h1, rfl⟩ := h
    cases hx; cases hy
    rw [ile_eq, decide_eq_true_eq] at h1
    refine ⟨_, ?_, .int _ _⟩
    rw [shlK_eq]
    simp only [binOp, Op.shift]
    rw [Sem.run_ite, if_neg (by omega)]
    rfl
  · simp only [Option.some.injEq, Prod.mk.injEq] at h
    obtain ⟨h1, rfl⟩ := h
    cases hx; cases hy
    rw [ile_eq, decide_eq_true_eq] at h1
    refine ⟨_, ?_, .int _ _⟩
    rw [shrK_eq]
    simp only [binOp, Op.shift]
    rw [Sem.run_ite, if_neg (by omega)]
    rfl
  · rename_i op' j a j' b hn1 hn2
    split at h
    case isFalse => cases h
    rename_i hj
    subst hj
    cases hx; cases hy
    cases op <;> simp only [Option.some.injEq, Prod.mk.injEq, true_and, reduceCtorEq] at h
    case quo =>
      obtain ⟨h1, rfl⟩ := h
      rw [ieq_eq] at h1
      have hb : b ≠ 0 := by simpa using h1
      exact ⟨_, by simp [binOp, Op.intDiv, hb]; rfl, by rw [wrapK_eq]; exact .int _ _⟩
    case rem =>
      obtain ⟨h1, rfl⟩ := h
      rw [ieq_eq] at h1
      have hb : b ≠ 0 := by simpa using h1
      exact ⟨.int j (a.tmod b), by simp [binOp, Op.intDiv, hb], .int _ _⟩
    case add => subst h; exact ⟨_, by simp [binOp, Op.intArith]; rfl, by rw [wrapK_eq]; exact .int _ _⟩
    case sub => subst h; exact ⟨_, by simp [binOp, Op.intArith]; rfl, by rw [wrapK_eq]; exact .int _ _⟩
    case mul => subst h; exact ⟨_, by simp [binOp, Op.intArith]; rfl, by rw [wrapK_eq]; exact .int _ _⟩
    case and => subst h; exact ⟨_, by simp only [binOp, Op.intBits, ne_eq, not_true_eq_false, if_false]; rfl, by rw [bitsK_eq]; exact .int _ _⟩
    case or => subst h; exact ⟨_, by simp only [binOp, Op.intBits, ne_eq, not_true_eq_false, if_false]; rfl, by rw [bitsK_eq]; exact .int _ _⟩
    case xor => subst h; exact ⟨_, by simp only [binOp, Op.intBits, ne_eq, not_true_eq_false, if_false]; rfl, by rw [bitsK_eq]; exact .int _ _⟩
    case andNot => subst h; exact ⟨_, by simp only [binOp, Op.intBits, ne_eq, not_true_eq_false, if_false]; rfl, by rw [bitsK_eq]; exact .int _ _⟩
    case eql => subst h; exact ⟨_, by simp [binOp, Op.intCmp]; rfl, by rw [ieq_eq]; exact .bool _⟩
    case neq => subst h; exact ⟨_, by simp [binOp, Op.intCmp]; rfl, by rw [ieq_eq]; exact .bool _⟩
    case lss => subst h; exact ⟨_, by simp [binOp, Op.intCmp]; rfl, by rw [ilt_eq]; exact .bool _⟩
    case leq => subst h; exact ⟨_, by simp [binOp, Op.intCmp]; rfl, by rw [ile_eq]; exact .bool _⟩
    case gtr => subst h; exact ⟨_, by simp [binOp, Op.intCmp]; rfl, by rw [ilt_eq]; exact .bool _⟩
    case geq => subst h; exact ⟨_, by simp [binOp, Op.intCmp]; rfl, by rw [ile_eq]; exact .bool _⟩
  · -- add of texts
    simp only [Option.some.injEq, Prod.mk.injEq] at h
    obtain ⟨h1, rfl⟩ := h
    cases hx with
    | str l s hs =>
    cases hy with
    | str m u hu =>
    obtain ⟨e1, e2⟩ := str_toList hs
    obtain ⟨e3, e4⟩ := str_toList hu
    have h2 := Nat.le_of_ble_eq_true h1
    refine ⟨.string (s ++ u), ?_, .str _ _ (by simp [hs, hu])⟩
    simp only [binOp, Op.stringOp]
    rw [Sem.run_ite, if_neg (by simp [IntKind.max, IntKind.signed, IntKind.bits]; omega)]
    rfl
  all_goals try
    simp only [Option.some.injEq, Prod.mk.injEq, true_and] at h
    subst h
    cases hx with
    | str l s hs =>
    cases hy with
    | str m u hu =>
    obtain ⟨e1, e2⟩ := str_toList hs
    obtain ⟨e3, e4⟩ := str_toList hu
    refine ⟨_, by simp only [binOp, Op.stringOp]; rfl, ?_⟩
    rw [e1, e3]
    exact .bool _
  · rename_i h1 h2 h3
    obtain ⟨b, hb, hbv⟩ := Option.map_eq_some_iff.1 h
    simp only [Prod.mk.injEq, true_and] at hbv
    subst hbv
    have hrun := eqT_sound (w := w) hi hx hy hb
    refine ⟨_, ?_, .bool _⟩
    unfold eqT at hb
    split at hb <;> first | (cases hb; done) | skip
    all_goals
      cases hx; cases hy
      simp only [binOp, Sem.run_bind, hrun, Result.andThen_ok, Sem.run_pure]
  · rename_i h1 h2 h3
    obtain ⟨b, hb, hbv⟩ := Option.map_eq_some_iff.1 h
    simp only [Prod.mk.injEq, true_and] at hbv
    subst hbv
    have hrun := eqT_sound (w := w) hi hx hy hb
    refine ⟨_, ?_, .bool _⟩
    unfold eqT at hb
    split at hb <;> first | (cases hb; done) | skip
    all_goals
      cases hx; cases hy
      simp only [binOp, Sem.run_bind, hrun, Result.andThen_ok, Sem.run_pure]
  · cases h

theorem eqCells_split : ∀ {ks : List TK} {xs ys : List A} {b : Bool}, eqCells ks xs ys = some b → ∀ n, ∃ b1 b2, eqCells (ks.take n) (xs.take n) (ys.take n) = some b1 ∧ eqCells (ks.drop n) (xs.drop n) (ys.drop n) = some b2 ∧ b = (b1 && b2)
  | [], [], [], b, h, n => by
    simp only [eqCells, Option.some.injEq] at h
    subst h
    exact ⟨true, true, by simp [eqCells], by simp [eqCells], rfl⟩
  | k :: ks, x :: xs, y :: ys, b, h, 0 => ⟨true, b, by simp [eqCells], h, by simp⟩
  | k :: ks, x :: xs, y :: ys, b, h, n + 1 => by
    simp only [eqCells] at h
    split at h
    · rename_i c1 c2 h1 h2
      cases h
      obtain ⟨b1, b2, h3, h4, rfl⟩ := eqCells_split h2 n
      exact ⟨c1 && b1, b2, by simp [eqCells, h1, h3], h4, by rw [Bool.and_assoc]⟩
    · cases h
  | [], [], _ :: _, b, h, n => by simp [eqCells] at h
  | [], _ :: _, _, b, h, n => by simp [eqCells] at h
  | _ :: _, _ :: _, [], b, h, n => by simp [eqCells] at h
  | _ :: _, [], _, b, h, n => by simp [eqCells] at h

theorem eqCells_length : ∀ {ks : List TK} {xs ys : List A} {b : Bool}, eqCells ks xs ys = some b → xs.length = ks.length ∧ ys.length = ks.length
  | [], [], [], _, _ => ⟨rfl, rfl⟩
  | k :: ks, x :: xs, y :: ys, b, h => by
    simp only [eqCells] at h
    split at h
    · rename_i c1 c2 h1 h2
      have := eqCells_length h2
      simp [this]
    · cases h
  | [], [], _ :: _, b, h => by simp [eqCells] at h
  | [], _ :: _, _, b, h => by simp [eqCells] at h
  | _ :: _, _ :: _, [], b, h => by simp [eqCells] at h
  | _ :: _, [], _, b, h => by simp [eqCells] at h

def valOf (P : Program) (t : TypeId) (c : List Value) : Value := if isAggB P t then .agg c.toArray else c.getD 0 undef

theorem run_part {t : TypeId} {ii : TypeInfo} {d : TypeDesc} {c : Array Value} {o : Nat} {w : World} (h1 : P.info? t = some ii) (h2 : P.underlying t = some d) (hle : o + ii.size ≤ c.size) (h3 : isAggB P t = false → 0 < ii.size) :
    (part t c o).run P w = .ok (valOf P t ((c.toList.drop o).take ii.size)) w := by
  unfold part
  simp only [Sem.run_bind, run_isAgg h2, Result.andThen_ok, valOf]
  cases hag : isAggB P t with
  | true =>
    simp only [if_true, Sem.run_bind, run_sizeOf h1, Result.andThen_ok, Sem.run_pure]
    congr 2
    apply Array.ext'
    simp [List.take_drop]
  | false =>
    have hpos := h3 hag
    have hlt : o < c.size := by omega
    simp only [Bool.false_eq_true, if_false, Array.getElem?_eq_getElem hlt, Sem.run_pure]
    simp [List.getD_eq_getElem?_getD, hpos, hlt]

theorem cell_equalIn {k : TK} {x y : A} {vx vy : Value} {t : TypeId} {d : TypeDesc} {b : Bool} {w : World} {D : Nat} (hu : P.underlying t = some d) (hk : k = kindOf P d) (hx : VR C x vx) (hy : VR C y vy) (h : eqCell k x y = some b) :
    (Op.equalIn (D + 1) t vx vy).run P w = .ok b w := by
  unfold eqCell at h
  split at h
  · cases h
    have := kindOf_bool hk
    subst this
    cases hx; cases hy
    exact run_equalIn_bool' w D t _ _ hu
  · split at h
    · rename_i hkj
      subst hkj
      cases h
      have := kindOf_int hk
      subst this
      cases hx; cases hy
      rw [ieq_eq]
      exact run_equalIn_int w D t _ _ _ _ hu
    · cases h
  · cases h
    have := kindOf_str hk
    subst this
    cases hx with
    | str _ s hs =>
    cases hy with
    | str _ u hu' =>
    rw [run_equalIn_string w D t _ _ hu, (str_toList hs).1, (str_toList hu').1]
  · cases h

theorem single {k : TK} {xs ys : List A} {cx cy : List Value} {b : Bool} (hx : VRs C xs cx) (hy : VRs C ys cy) (he : eqCells [k] xs ys = some b) :
    ∃ x y, eqCell k x y = some b ∧ VR C x (cx.getD 0 undef) ∧ VR C y (cy.getD 0 undef) := by
  obtain ⟨l1, l2⟩ := eqCells_length he
  obtain ⟨x, rfl⟩ := List.length_eq_one_iff.1 l1
  obtain ⟨y, rfl⟩ := List.length_eq_one_iff.1 l2
  simp only [eqCells] at he
  split at he
  · rename_i c1 c2 k1 k2
    cases k2
    cases he
    exact ⟨x, y, by simpa using k1, hx.2.1 0 (by simp), hy.2.1 0 (by simp)⟩
  · cases he

theorem equalIn_sound : ∀ (d : Nat) {t : TypeId} {ks : List TK}, flatK P d t = some ks → ∀ {D : Nat}, d ≤ D → ∀ {xs ys : List A} {cx cy : List Value} {b : Bool} {w : World}, VRs C xs cx → VRs C ys cy →
    eqCells ks xs ys = some b → (Op.equalIn D t (valOf P t cx) (valOf P t cy)).run P w = .ok b w
  | 0, t, ks, h, _, _, _, _, _, _, _, _, _, _, _ => by simp [flatK] at h
  | d + 1, t, ks, h, D, hD, xs, ys, cx, cy, b, w, hx, hy, he => by
    obtain ⟨D, rfl⟩ : ∃ k, D = k + 1 := ⟨D - 1, by omega⟩
    unfold flatK at h
    split at h
    · rename_i hu
      cases h
      obtain ⟨x, y, h1, h2, h3⟩ := single hx hy he
      have := cell_equalIn (w := w) (D := D) hu rfl h2 h3 h1
      simpa [valOf, isAggB, hu] using this
    · rename_i k hu
      cases h
      obtain ⟨x, y, h1, h2, h3⟩ := single hx hy he
      have := cell_equalIn (w := w) (D := D) hu rfl h2 h3 h1
      simpa [valOf, isAggB, hu] using this
    · rename_i hu
      cases h
      obtain ⟨x, y, h1, h2, h3⟩ := single hx hy he
      have := cell_equalIn (w := w) (D := D) hu rfl h2 h3 h1
      simpa [valOf, isAggB, hu] using this
    · rename_i fs hu
      split at h
      · cases h
      · rename_i hst
        have hfo : P.fieldsOf t = fs := by simp [Program.fieldsOf, hu]
        have hag : isAggB P t = true := by simp [isAggB, hu]
        simp only [valOf, hag, if_true]
        rw [run_equalIn_struct w D t _ _ (by rw [hfo]; exact hu) (by simpa using hst), hfo]
        have key : ∀ (l : List Field) (o : Nat) (ks : List TK) (b : Bool), flatF P (flatK P d) o l = some ks → o ≤ xs.length → o ≤ ys.length → eqCells ks (xs.drop o) (ys.drop o) = some b →
            (Op.eqFields D cx.toArray cy.toArray l).run P w = .ok b w := by
          intro l
          induction l with
          | nil =>
            intro o ks b hf _ _ hb
            simp only [flatF, Option.some.injEq] at hf
            subst hf
            obtain ⟨l1, l2⟩ := eqCells_length hb
            rw [List.eq_nil_of_length_eq_zero l1, List.eq_nil_of_length_eq_zero l2] at hb
            cases hb
            rfl
          | cons f r ih =>
            intro o ks b hf hox hoy hb
            simp only [flatF] at hf
            split at hf
            case isFalse => cases hf
            rename_i hc
            simp only [Bool.and_eq_true, bne_iff_ne, ne_eq] at hc
            obtain ⟨ho, hname, hinfo⟩ := hc
            have ho' := Nat.eq_of_beq_eq_true ho
            split at hf
            case h_2 => cases hf
            rename_i l1 hl1
            split at hf
            case isFalse => cases hf
            rename_i hlen
            have hlen' := Nat.eq_of_beq_eq_true hlen
            split at hf
            case h_2 => cases hf
            rename_i m hm
            cases hf
            obtain ⟨fi, hfi⟩ := Option.isSome_iff_exists.1 hinfo
            have hcf : P.cellsOf f.type = fi.size := by simp [Program.cellsOf, hfi]
            obtain ⟨b1, b2, e1, e2, rfl⟩ := eqCells_split hb l1.length
            rw [List.take_left' rfl] at e1
            rw [List.drop_left' rfl] at e2
            rw [List.drop_drop, List.drop_drop, hlen'] at e2
            have hsz : (xs.drop o).length = (l1 ++ m).length ∧ (ys.drop o).length = (l1 ++ m).length := eqCells_length hb
            have hxl := hx.1
            have hyl := hy.1
            simp only [List.length_drop, List.length_append] at hsz
            have hun : ∃ du, P.underlying f.type = some du := by
              cases d with
              | zero => simp [flatK] at hl1
              | succ d => unfold flatK at hl1; split at hl1 <;> first | exact ⟨_, by assumption⟩ | cases hl1
            obtain ⟨du, hdu⟩ := hun
            have hpos : isAggB P f.type = false → 0 < fi.size := fun hna => by
              cases d with
              | zero => simp [flatK] at hl1
              | succ d =>
                unfold flatK at hl1
                split at hl1
                · cases hl1; simp at hlen'; omega
                · cases hl1; simp at hlen'; omega
                · cases hl1; simp at hlen'; omega
                · rename_i hh; simp [isAggB, hh] at hna
                · cases hl1
            have hr := ih _ _ _ hm (by omega) (by omega) e2
            have p1 : (part f.type cx.toArray f.offset).run P w = .ok (valOf P f.type ((cx.drop f.offset).take fi.size)) w := run_part (c := cx.toArray) hfi hdu (by simp; omega) hpos
            have p2 : (part f.type cy.toArray f.offset).run P w = .ok (valOf P f.type ((cy.drop f.offset).take fi.size)) w := run_part (c := cy.toArray) hfi hdu (by simp; omega) hpos
            have p3 := equalIn_sound d (w := w) hl1 (D := D) (by omega) ((hx.drop o).take l1.length) ((hy.drop o).take l1.length) e1
            rw [hlen', hcf] at p3
            rw [ho'] at p1 p2
            unfold Op.eqFields
            rw [Sem.run_ite, if_pos hname]
            simp only [Sem.run_bind, ho', p1, p2, p3, Result.andThen_ok]
            cases b1
            · simp
            · simpa using hr
        exact key fs.toList 0 ks b h (Nat.zero_le _) (Nat.zero_le _) (by simpa using he)
    · cases h

end Go.VI
