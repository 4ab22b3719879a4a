/-
  How the abstract heap stands to the model's: values, blocks, frames; what a step may change.
-/
import Derived.Test.YtjocfknaojbemaaVIRun
import Derived.Laws.Sem
import Derived.Laws.World
import Derived.Below
namespace Go.VI

/-- A world, and what it is seen as: which block a name has; which block a row lies in, and its capacity. -/
structure Cx where
  w : World
  H : Heap
  ρ : Nat → Option Nat
  η : Nat → Option (Nat × Nat)
  hid : Nat → Prop

def rwOf : Blk → Bool
  | .dead => false
  | .cells rw _ | .row rw _ _ _ | .urow rw _ _ _ | .tmap rw _ _ _ _ _ | .amap rw _ => rw
  | .siter _ _ => true
def blockOf (C : Cx) (n : Nat) : Blk → Option Nat
  | .dead => none
  | .row .. | .urow .. => (C.η n).map (·.1)
  | _ => C.ρ n
def szOf : Blk → Nat
  | .row _ t _ _ => t.size
  | .urow _ sz _ _ => sz
  | _ => 0
def lenOf : Blk → Nat
  | .row _ _ xs _ => xs.length
  | .urow _ sz cs _ => cs.length / sz
  | _ => 0

def Cx.own (C : Cx) (b : Nat) : Prop := C.hid b ∨ ∃ n blk, C.H.get n = some blk ∧ rwOf blk = true ∧ blockOf C n blk = some b

/-- No mark lies on the first so many cells. -/
def bare (fr : Nat × Nat) (n : Nat) : Prop := ∀ i, i < n → ¬ (fr.1 ≤ i ∧ i < fr.2)

def oneC (v : Value) : Prop := v.oneCell' = true

inductive VR (C : Cx) : A → Value → Prop where
  | bot (v : Value) : VR C .bot v
  | bool (b : Bool) : VR C (.bool b) (.bool b)
  | int (k : IntKind) (n : Int) : VR C (.int k n) (.int k n)
  | str (l : Str) (s : ByteArray) (h : s.data.toList = l) : VR C (.str l) (.string s)
  | nilp : VR C .nilp (.pointer none)
  | nils : VR C .nils (.slice none 0 0)
  | nilm : VR C .nilm (.map none)
  | nilf : VR C .nilf .nilFunc
  | nili : VR C .nili .nilIface
  | ptr (n o b : Nat) (h : C.ρ n = some b) : VR C (.ptr n o) (.pointer (some ⟨b, o, none⟩))
  | sl0 (t : Ty) (a : Option Addr) (cap : Nat) : VR C (.sl t []) (.slice a 0 cap)
  | sl (t : Ty) (xs : List t.den) (b o cap : Nat) (c : Array Value) (e : TypeId) (fr : Nat × Nat)
      (hb : C.w.heap[b]? = some (.cells c e fr)) (ho : ¬ C.own b) (hs : o + xs.length * t.size ≤ c.size) (hcap : xs.length ≤ cap)
      (hc : ∀ i j, i < xs.length → j < t.size → VR C ((enc t (rd xs i)).getD j .bot) (c.getD (o + i * t.size + j) undef))
      (h1 : ∀ i j, i < xs.length → j < t.size → oneC (c.getD (o + i * t.size + j) undef)) :
      VR C (.sl t xs) (.slice (some ⟨b, o, none⟩) xs.length cap)
  | hsl (n g : Nat) (sub : Option (Nat × Nat)) (a : Option Addr) (len cap : Nat) (hn : n < C.H.next) (hcap : len ≤ cap)
      (hg : ∀ blk g', C.H.get n = some blk → genOf blk = some g' → g ≤ g')
      (h : ∀ blk, C.H.get n = some blk → genOf blk = some g → len = (match sub with | none => lenOf blk | some (_, l) => l) ∧
        (match sub with
         | none => match C.η n with
           | none => a = none ∧ cap = 0
           | some (b, cp) => a = some ⟨b, 0, none⟩ ∧ cap = cp
         | some (o, l) => o + l ≤ lenOf blk ∧ (l ≠ 0 → ∃ b cp, C.η n = some (b, cp) ∧ a = some ⟨b, o * szOf blk, none⟩))) :
      VR C (.hsl n g sub) (.slice a len cap)
  | rptr (n g i o : Nat) (v : Value) (hn : n < C.H.next) (h1 : oneC v)
      (hg : ∀ blk g', C.H.get n = some blk → genOf blk = some g' → g ≤ g')
      (h : ∀ blk, C.H.get n = some blk → genOf blk = some g → i < lenOf blk ∧ ∃ b cp, C.η n = some (b, cp) ∧ v = .pointer (some ⟨b, i * szOf blk + o, none⟩)) :
      VR C (.rptr n g i o) v
  | map (n b : Nat) (h : C.ρ n = some b) : VR C (.map n) (.map (some b))
  | iter (n b : Nat) (h : C.ρ n = some b) : VR C (.iter n) (.pointer (some ⟨b, 0, none⟩))
  | func (fn : Fn) (first cap : List A) (f c : Array Value) (hf : f.size = first.length) (hc : c.size = cap.length)
      (h1 : ∀ i, i < first.length → VR C (first.getD i .bot) (f.getD i undef))
      (h2 : ∀ i, i < cap.length → VR C (cap.getD i .bot) (c.getD i undef)) : VR C (.func fn first cap) (.func fn f c)
  | iface (t : TypeId) (a : A) (v : Value) (h : VR C a v) : VR C (.iface t a) (.iface t v)
  | iaddr (cs : List A) (b o : Nat) (c : Array Value) (e : TypeId) (fr : Nat × Nat)
      (hb : C.w.heap[b]? = some (.cells c e fr)) (ho : ¬ C.own b) (hs : o + cs.length ≤ c.size)
      (hc : ∀ j, j < cs.length → VR C (cs.getD j .bot) (c.getD (o + j) undef))
      (h1 : ∀ j, j < cs.length → oneC (c.getD (o + j) undef)) : VR C (.iaddr cs) (.pointer (some ⟨b, o, none⟩))
  | agg (cs : List A) (c : Array Value) (hs : c.size = cs.length)
      (hc : ∀ i, i < cs.length → VR C (cs.getD i .bot) (c.getD i undef))
      (h1 : ∀ i, i < cs.length → oneC (c.getD i undef)) : VR C (.agg cs) (.agg c)
  | tup (cs : List A) (c : Array Value) (hs : c.size = cs.length)
      (hc : ∀ i, i < cs.length → VR C (cs.getD i .bot) (c.getD i undef)) : VR C (.tup cs) (.tuple c)

/-- Cells, one by one. -/
def VRs (C : Cx) (cs : List A) (c : List Value) : Prop :=
  c.length = cs.length ∧ (∀ i, i < cs.length → VR C (cs.getD i .bot) (c.getD i undef)) ∧ ∀ i, i < cs.length → oneC (c.getD i undef)

/-- A value as it is kept in a map: a struct's or a cell's. -/
def VRv (C : Cx) (agg : Bool) (cs : List A) (v : Value) : Prop :=
  VRs C cs v.cells.toList ∧ (if agg then ∃ c, v = .agg c else oneC v)

def EntR (C : Cx) (ka va : Bool) (p : List A × List A) (e : MapEntry) : Prop := VRv C ka p.1 e.key ∧ VRv C va p.2 e.val

/-- A map's entries: in whatever order; each with a number of its own. -/
def MapR (C : Cx) (ka va : Bool) (es : List (List A × List A)) (me : Array MapEntry) (clock : Nat) : Prop :=
  (∃ l : List (List A × List A), l.Perm es ∧ l.length = me.size ∧ ∀ i (h : i < me.size), EntR C ka va (l.getD i ([], [])) me[i]) ∧
  (me.toList.map (·.born)).Nodup ∧ ∀ e ∈ me.toList, e.born < clock

def BlkR (C : Cx) (n : Nat) : Blk → Prop
  | .dead => True
  | .cells _ cs => ∃ b c e fr, C.ρ n = some b ∧ C.w.heap[b]? = some (.cells c e fr) ∧ VRs C cs c.toList ∧ bare fr c.size
  | .row _ t xs _ => (C.η n = none ∧ xs = []) ∨ ∃ b cap c e fr, C.η n = some (b, cap) ∧ C.w.heap[b]? = some (.cells c e fr) ∧ bare fr c.size ∧ cap * t.size ≤ c.size ∧ xs.length ≤ cap ∧
      (∀ i j, i < xs.length → j < t.size → VR C ((enc t (rd xs i)).getD j .bot) (c.getD (i * t.size + j) undef)) ∧ ∀ i, i < c.size → oneC (c.getD i undef)
  | .urow _ sz cs _ => 0 < sz ∧ ∃ b cap c e fr, C.η n = some (b, cap) ∧ C.w.heap[b]? = some (.cells c e fr) ∧ bare fr c.size ∧ cap * sz ≤ c.size ∧ cs.length ≤ cap * sz ∧ cs.length / sz * sz = cs.length ∧
      (∀ i, i < cs.length → VR C (cs.getD i .bot) (c.getD i undef)) ∧ ∀ i, i < c.size → oneC (c.getD i undef)
  | .tmap _ ka va κ ν es => ∃ b me clock, C.ρ n = some b ∧ C.w.heap[b]? = some (.map me clock) ∧
      MapR C ka va (es.map fun e => (enc κ e.1, enc ν e.2)) me clock ∧ es.Pairwise (fun x y => κ.beq x.1 y.1 = false)
  | .amap _ es => ∃ b me clock, C.ρ n = some b ∧ C.w.heap[b]? = some (.map me clock) ∧ ∃ ka va, MapR C ka va (es.map fun e => (e.1.cells, e.2.cells)) me clock
  | .siter _ _ => False

structure Rel (C : Cx) : Prop where
  names : ∀ n, C.H.next ≤ n → C.H.get n = none ∧ C.ρ n = none
  blocks : ∀ n blk, C.H.get n = some blk → BlkR C n blk
  dist : ∀ n m x y b, C.H.get n = some x → C.H.get m = some y → rwOf x = true → blockOf C n x = some b → blockOf C m y = some b → n = m
  hid : ∀ b, C.hid b → b < C.w.heap.size ∧ ∀ n x, C.H.get n = some x → blockOf C n x ≠ some b

/-- What one thing done may change, as values see it. -/
structure StepV (C C' : Cx) : Prop where
  next : C.H.next ≤ C'.H.next
  ρ : ∀ n b, C.ρ n = some b → C'.ρ n = some b
  rows : ∀ n blk' g, n < C.H.next → C'.H.get n = some blk' → genOf blk' = some g → ∃ blk g0, C.H.get n = some blk ∧ genOf blk = some g0 ∧ g0 ≤ g ∧ (g0 = g → lenOf blk' = lenOf blk ∧ szOf blk' = szOf blk ∧ C'.η n = C.η n)
  size : C.w.heap.size ≤ C'.w.heap.size
  frame : ∀ b, b < C.w.heap.size → ¬ C.own b → C'.w.heap[b]? = C.w.heap[b]?
  own : ∀ b, C'.own b → C.own b ∨ C.w.heap.size ≤ b
/-- What one thing done may change. -/
structure Step (C C' : Cx) : Prop extends StepV C C' where
  hid : ∀ b, C.hid b → C'.hid b
  dead : ∀ n, n < C.H.next → C.H.get n = none → C'.H.get n = none ∧ C'.ρ n = C.ρ n
  hframe : ∀ b, b < C.w.heap.size → C.hid b → C'.w.heap[b]? = C.w.heap[b]?
  os : C'.w.os = C.w.os
  tape : C'.w.tape = C.w.tape
  output : C'.w.output = C.w.output

instance (C C' : Cx) : Coe (Step C C') (StepV C C') := ⟨Step.toStepV⟩

theorem Step.refl (C : Cx) : Step C C := ⟨⟨Nat.le_refl _, fun _ _ h => h, fun _ blk g _ h hg => ⟨blk, g, h, hg, Nat.le_refl _, fun _ => ⟨rfl, rfl, rfl⟩⟩, Nat.le_refl _, fun _ _ _ => rfl, fun _ h => .inl h⟩, fun _ h => h, fun _ _ h => ⟨h, rfl⟩, fun _ _ _ => rfl, rfl, rfl, rfl⟩

theorem Step.trans {A B C : Cx} (h : Step A B) (k : Step B C) : Step A C where
  next := Nat.le_trans h.next k.next
  ρ n b hb := k.ρ n b (h.ρ n b hb)
  rows n blk' g hn hg hgen := by
    obtain ⟨b1, g1, h1, hg1, le1, k1⟩ := k.rows n blk' g (Nat.lt_of_lt_of_le hn h.next) hg hgen
    obtain ⟨b2, g2, h2, hg2, le2, k2⟩ := h.rows n b1 g1 hn h1 hg1
    refine ⟨b2, g2, h2, hg2, Nat.le_trans le2 le1, fun e => ?_⟩
    obtain ⟨l1, s1, e1⟩ := k1 (by omega)
    obtain ⟨l2, s2, e2⟩ := k2 (by omega)
    exact ⟨l1.trans l2, s1.trans s2, e1.trans e2⟩
  size := Nat.le_trans h.size k.size
  frame b hb ho := by
    have h1 : ¬ B.own b := fun hb' => (h.own b hb').elim ho (fun h' => by omega)
    rw [k.frame b (Nat.lt_of_lt_of_le hb h.size) h1, h.frame b hb ho]
  own b hb := (k.own b hb).elim (fun h1 => h.own b h1) (fun h1 => .inr (Nat.le_trans h.size h1))
  hid b hb := k.hid b (h.hid b hb)
  dead n hn hg := by
    obtain ⟨h1, h2⟩ := h.dead n hn hg
    obtain ⟨k1, k2⟩ := k.dead n (Nat.lt_of_lt_of_le hn h.next) h1
    exact ⟨k1, k2.trans h2⟩
  hframe b hb hh := by rw [k.hframe b (Nat.lt_of_lt_of_le hb h.size) (h.hid b hh), h.hframe b hb hh]
  os := k.os.trans h.os
  tape := k.tape.trans h.tape
  output := k.output.trans h.output

theorem heap_lt {w : World} {b : Nat} {o : Obj} (h : w.heap[b]? = some o) : b < w.heap.size := by
  have := Array.getElem?_eq_some_iff.1 h
  exact this.1

/-- What a value is seen as stays so. -/
theorem VR.keep {C C' : Cx} (h : StepV C C') {a : A} {v : Value} (hv : VR C a v) : VR C' a v := by
  have k2 : ∀ b c e fr, C.w.heap[b]? = some (.cells c e fr) → ¬ C.own b → C'.w.heap[b]? = some (.cells c e fr) ∧ ¬ C'.own b := fun b c e fr hb ho => by
    have hlt := heap_lt hb
    exact ⟨by rw [h.frame b hlt ho]; exact hb, fun h' => (h.own b h').elim ho (fun h'' => by omega)⟩
  induction hv with
  | bot v => exact .bot v
  | bool b => exact .bool b
  | int k n => exact .int k n
  | str l s hs => exact .str l s hs
  | nilp => exact .nilp
  | nils => exact .nils
  | nilm => exact .nilm
  | nilf => exact .nilf
  | nili => exact .nili
  | ptr n o b hb => exact .ptr n o b (h.ρ n b hb)
  | sl0 t a cap => exact .sl0 t a cap
  | sl t xs b o cap c e fr hb ho hs hcap _ h1 ih =>
    obtain ⟨hb', ho'⟩ := k2 b c e fr hb ho
    exact .sl t xs b o cap c e fr hb' ho' hs hcap ih h1
  | hsl n g sub a len cap hn hcap hle hh =>
    refine .hsl n g sub a len cap (Nat.lt_of_lt_of_le hn h.next) hcap (fun blk' g' hb' hg' => ?_) fun blk' hb' hg' => ?_
    · obtain ⟨blk, g0, h1, h2, h3, _⟩ := h.rows n blk' g' hn hb' hg'
      exact Nat.le_trans (hle blk g0 h1 h2) h3
    · obtain ⟨blk, g0, h1, h2, h3, h4⟩ := h.rows n blk' g hn hb' hg'
      have hgg : g0 = g := Nat.le_antisymm h3 (hle blk g0 h1 h2)
      obtain ⟨h5, h6, h7⟩ := h4 hgg
      subst hgg
      have := hh blk h1 h2
      rw [h5, h6, h7]
      exact this
  | rptr n g i o v hn h1 hle hh =>
    refine .rptr n g i o v (Nat.lt_of_lt_of_le hn h.next) h1 (fun blk' g' hb' hg' => ?_) fun blk' hb' hg' => ?_
    · obtain ⟨blk, g0, h1, h2, h3, _⟩ := h.rows n blk' g' hn hb' hg'
      exact Nat.le_trans (hle blk g0 h1 h2) h3
    · obtain ⟨blk, g0, h1, h2, h3, h4⟩ := h.rows n blk' g hn hb' hg'
      have hgg : g0 = g := Nat.le_antisymm h3 (hle blk g0 h1 h2)
      obtain ⟨h5, h6, h7⟩ := h4 hgg
      subst hgg
      have := hh blk h1 h2
      rw [h5, h6, h7]
      exact this
  | map n b hb => exact .map n b (h.ρ n b hb)
  | iter n b hb => exact .iter n b (h.ρ n b hb)
  | func fn first cap f c hf hc _ _ i1 i2 => exact .func fn first cap f c hf hc i1 i2
  | iface t a v _ ih => exact .iface t a v ih
  | iaddr cs b o c e fr hb ho hs _ h1 ih =>
    obtain ⟨hb', ho'⟩ := k2 b c e fr hb ho
    exact .iaddr cs b o c e fr hb' ho' hs ih h1
  | agg cs c hs _ h1 ih => exact .agg cs c hs ih h1
  | tup cs c hs _ ih => exact .tup cs c hs ih

theorem VRs.keep {C C' : Cx} (h : StepV C C') {cs : List A} {c : List Value} (hv : VRs C cs c) : VRs C' cs c :=
  ⟨hv.1, fun i hi => (hv.2.1 i hi).keep h, hv.2.2⟩
theorem VRv.keep {C C' : Cx} (h : StepV C C') {agg : Bool} {cs : List A} {v : Value} (hv : VRv C agg cs v) : VRv C' agg cs v := ⟨hv.1.keep h, hv.2⟩
theorem EntR.keep {C C' : Cx} (h : StepV C C') {ka va : Bool} {p : List A × List A} {e : MapEntry} (hv : EntR C ka va p e) : EntR C' ka va p e := ⟨hv.1.keep h, hv.2.keep h⟩
theorem MapR.keep {C C' : Cx} (h : StepV C C') {ka va : Bool} {es : List (List A × List A)} {me : Array MapEntry} {clock : Nat} (hv : MapR C ka va es me clock) : MapR C' ka va es me clock := by
  obtain ⟨⟨l, h1, h2, h3⟩, h4, h5⟩ := hv
  exact ⟨⟨l, h1, h2, fun i hi => (h3 i hi).keep h⟩, h4, h5⟩

/-- Frames. -/
def FR (C : Cx) (tm : Fr) (a : Act) : Prop := ∀ t v, luk tm t = some v → VR C v (a.tmps.getD t undef)
theorem FR.keep {C C' : Cx} (h : StepV C C') {tm : Fr} {a : Act} (hf : FR C tm a) : FR C' tm a := fun t v hv => (hf t v hv).keep h
theorem FR.get {C : Cx} {tm : Fr} {a : Act} (hf : FR C tm a) (t : Nat) : VR C (tm.get t) (a.tmps.getD t undef) := by
  unfold Fr.get
  cases h : luk tm t with
  | none => exact .bot _
  | some v => exact hf t v h

theorem luk_cons {α : Type} (k : Nat) (v : α) (l : List (Nat × α)) (n : Nat) : luk ((k, v) :: l) n = if k = n then some v else luk l n := by
  simp only [luk]
  by_cases h : k = n
  · subst h; simp
  · have : Nat.beq k n = false := by
      cases hb : Nat.beq k n with
      | false => rfl
      | true => exact absurd (Nat.eq_of_beq_eq_true hb) h
    simp [this, h]

theorem FR.put {C : Cx} {tm : Fr} {a : Act} (hf : FR C tm a) {d : Nat} (hd : d < a.tmps.size) {v : A} {cv : Value} (hv : VR C v cv) :
    FR C ((d, v) :: tm) (a.put (some d) cv) := by
  intro t x hx
  rw [luk_cons] at hx
  simp only [Act.put]
  by_cases h : d = t
  · subst h
    rw [if_pos rfl] at hx
    cases hx
    simpa [Array.getD_eq_getD_getElem?, Array.getElem?_setIfInBounds_self, hd] using hv
  · rw [if_neg h] at hx
    have := hf t x hx
    simpa [Array.getD_eq_getD_getElem?, Array.getElem?_setIfInBounds_ne h] using this

theorem Act.put_size (a : Act) (d : Option Tmp) (v : Value) : (a.put d v).tmps.size = a.tmps.size := by
  cases d <;> simp [Act.put]

end Go.VI
