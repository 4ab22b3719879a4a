/-
  The meaning of operations, regions, code and functions over the abstract heap.
-/
import Derived.Test.YtjocfknaojbemaaVIOps
namespace Go.VI

inductive X where
  | norm | exit (id : Nat) | ret
  deriving DecidableEq

abbrev TE := ∀ R : Type, List A → Heap → (A → Heap → Option R) → Option R

variable {R : Type}

/-- Does it go well; the value; the heap behind it. -/
abbrev Out := Option (Bool × A × Heap)

/-- append(x, y...): x a row of the call's own, or nil. -/
def appendD (E : Env) (slt srt : TypeId) (H : Heap) (nm : Nat) (x y : A) : Out :=
  match E.ti slt, E.ti srt with
  | some { kind := .slice e, .. }, some { kind := .slice _, .. } => match E.ti e, E.ty e with
    | some i, some t =>
      if t.size = i.size ∧ 0 < i.size ∧ 0 < i.bytes ∧ i.zero.full.map List.length = some i.size then
      match elems H t y with
      | none => none
      | some ys => match x with
        | .nils => some (roomy ys.length i.bytes, .hsl nm 0 none, H.put nm (.row true t ys 0))
        | .hsl n g none => match H.get n with
          | some (.row true t' xs g') => if h : t' = t then (if g' = g then some (roomy (xs.length + ys.length) i.bytes, .hsl n (g + 1) none, H.set n (.row true t ((h ▸ xs) ++ ys) (g + 1))) else none) else none
          | _ => none
        | _ => none
      else none
    | _, _ => none
  | _, _ => none

/-- m[key] = x. -/
def putD (K : TypeId → Option (List TK × Bool)) (kt : TypeId) (H : Heap) (m key x : A) : Out := match m with
  | .map n => match H.get n with
    | some (.tmap true ka va κ ν es) => match key.full, x.full with
      | some cs, some vs => if keyOk K kt κ ka = true ∧ key.isAgg = ka ∧ x.isAgg = va then (match decH κ noHeap cs with
        | some (y, [], _) => match decH ν H vs with
          | some (z, [], H2) => match H2.get n with
            | some (.tmap true _ _ _ _ _) => some (true, .bot, H2.set n (.tmap true ka va κ ν (upd es y z)))
            | _ => none
          | _ => none
        | _ => none) else none
      | _, _ => none
    | _ => none
  | _ => none
def delD (K : TypeId → Option (List TK × Bool)) (kt : TypeId) (H : Heap) (m key : A) : Out := match m with
  | .map n => match H.get n with
    | some (.tmap true ka va κ ν es) => match key.full with
      | some cs => if keyOk K kt κ ka = true ∧ key.isAgg = ka then (match decH κ noHeap cs with
        | some (x, [], _) => some (true, .tup [], H.set n (.tmap true ka va κ ν (del es x)))
        | _ => none) else none
      | none => none
    | _ => none
  | _ => none

/-- A struct's or array's value, or the value of a single cell. -/
def one (agg : Bool) (cs : List A) : Option A := if agg then some (.agg cs) else (match cs with | [c] => some c | _ => none)
def okA (ok : Bool) (v : A) (b : Bool) : A := if ok then .tup [v, .bool b] else v
/-- m[key], or the zero. -/
def lookD (K : TypeId → Option (List TK × Bool)) (kt : TypeId) (H : Heap) (i : TI) (m key : A) (ok : Bool) : Option A := match m with
  | .nilm => match key.full, i.zero.full with
    | some cs, some _ => if nilOk K kt cs.length key.isAgg = true then some (okA ok i.zero false) else none
    | _, _ => none
  | .map n => match H.get n, key.full, i.zero.full with
    | some (.tmap _ ka va κ ν es), some cs, some zs => if (va = i.agg ∧ i.zero.isAgg = i.agg) ∧ keyOk K kt κ ka = true ∧ key.isAgg = ka then (match decH κ noHeap cs, decH ν noHeap zs with
      | some (y, [], _), some (z, [], _) => (one i.agg (enc ν ((look es y).getD z))).map fun v => okA ok v (look es y).isSome
      | _, _ => none) else none
    | _, _, _ => none
  | _ => none

def maxA : A → A → Option A
  | .int k a, .int _ b => some (.int k (br (ilt a b) b a))
  | _, _ => none
def minA : A → A → Option A
  | .int k a, .int _ b => some (.int k (br (ilt b a) b a))
  | _, _ => none
def foldA1 (f : A → A → Option A) : A → List A → Option A
  | a, [] => some a
  | a, b :: r => match f a b with
    | some c => foldA1 f c r
    | none => none
def foldA (f : A → A → Option A) : List A → Option A
  | [] => none
  | a :: r => foldA1 f a r

def lenK : TK → A → Bool
  | .str, .str _ => true
  | .slice _, .nils => true
  | .slice _, .sl _ _ => true
  | .slice _, .hsl _ _ _ => true
  | .map _ _, .nilm => true
  | .map _ _, .map _ => true
  | _, _ => false
def builtinD (E : Env) (b : Builtin) (argTypes : List TypeId) (args : List A) (H : Heap) (nm : Nat) : Out :=
  match b, argTypes, args with
  | .len, t :: _, [x] => match E.ti t with
    | some i => if lenK i.kind x = true then (lenD H x).map fun v => (true, v, H) else none
    | none => none
  | .append, [t, u], [x, y] => appendD E t u H nm x y
  | .max, _, l => (foldA maxA l).map fun v => (true, v, H)
  | .min, _, l => (foldA minA l).map fun v => (true, v, H)
  | _, _, _ => none


/-- An operation that calls no function of the program. 'nm': the name for what it lays. -/
def opD (E : Env) (ρ : Operand → A) (H : Heap) (nm : Nat) (o : Oper) : Out :=
  match o.op with
  | .move x | .assign x => some (true, ρ x, H)
  | .pick c a b => match ρ c with
    | .bool t => some (true, A.pick t (ρ a) (ρ b), H)
    | _ => none
  | .alloc e => match E.ti e with
    | some i => match i.zero.full with
      | some cs => some (true, .ptr nm 0, H.put nm (.cells true cs))
      | none => none
    | none => none
  | .box _ x => match (ρ x).full with
    | some cs => some (true, .ptr nm 0, H.put nm (.cells true cs))
    | none => none
  | .build t parts => match E.ti t with
    | some { kind := .struct fs, zero := z, .. } => match z.full with
      | some zc => match fillK (fun i => (fs[i]?).map fun f => (f.1, f.2.1)) zc (parts.toList.map fun p => (p.1, ρ p.2)) with
        | some cs => some (true, .agg cs, H)
        | none => none
      | none => none
    | some { kind := .arr _ e, zero := z, .. } => match E.ti e, z.full with
      | some i, some zc => match fillK (fun j => some (j * i.size, i.size)) zc (parts.toList.map fun p => (p.1, ρ p.2)) with
        | some cs => some (true, .agg cs, H)
        | none => none
      | _, _ => none
    | _ => none
  | .buildSlice t len parts => match E.ti t with
    | some { kind := .slice e, .. } => match E.ti e with
      | some i => match i.zero.full with
        | none => none
        | some z => if Nat.ble (len * i.size) 16777216 = true ∧ z.length = i.size ∧ 0 < i.size then
          match fillK (fun j => some (j * i.size, i.size)) (zeros z len) (parts.toList.map fun p => (p.1, ρ p.2)) with
          | some cs => match E.ty e with
            | some ty => if ty.size = i.size then (match decRows ty len H cs with
              | some (xs, H1) => some (true, .hsl nm 0 none, H1.put nm (.row true ty xs 0))
              | none => none) else none
            | none => none
          | none => none
          else none
      | none => none
    | _ => none
  | .load t a => match E.ti t with
    | some i => match cellsAt H (ρ a) i.size with
      | some cs => (one i.agg cs).map fun v => (true, v, H)
      | none => none
    | none => none
  | .store t a x => match E.ti t, (ρ x).full with
    | some i, some vs => if vs.length = i.size then (match storeAt H (ρ a) vs with
      | some H1 => some (true, .bot, H1)
      | none => none) else none
    | _, _ => none
  | .nilCheck x => match ρ x with
    | .ptr n o => some (true, .ptr n o, H)
    | .iaddr cs => some (true, .iaddr cs, H)
    | .func (.func f) a b => some (true, .func (.func f) a b, H)
    | _ => none
  | .binOp op t x y _ => match E.ti t with
    | some i => match ρ x, ρ y with
      | .agg xs, .agg ys => if i.agg then (match E.cmp t with
        | some ks => match op, eqCells ks xs ys with
          | .eql, some b => some (true, .bool b, H)
          | .neq, some b => some (true, .bool (!b), H)
          | _, _ => none
        | none => none) else none
      | u, v => (binD i.kind op u v).map fun r => (r.1, r.2, H)
    | none => none
  | .unOp op _ x => match op, ρ x with
    | .neg, .int j n => some (true, .int j (wrapK j (0 - n)), H)
    | .xor, .int j n => some (true, .int j (bitsK .xor j (if j.signed then -1 else j.max) n), H)
    | .not, .bool b => some (true, .bool (!b), H)
    | _, _ => none
  | .convert s d x => match E.ti s, E.ti d, ρ x with
    | some _, some { kind := .int j, .. }, .int _ n => some (true, .int j (wrapK j n), H)
    | some { kind := .str, .. }, some { kind := .str, .. }, .str l => some (true, .str l, H)
    | _, _, _ => none
  | .makeFunc fn first cap => some (true, .func fn (first.toList.map ρ) (cap.toList.map ρ), H)
  | .makeMap t r => match E.ti t, optEv ρ r with
    | some { kind := .map a b, .. }, r => match r with
      | some (.int _ _) | none => match E.ty a, E.ty b with
        | some κ, some ν => some (true, .map nm, H.put nm (.tmap true (match E.ti a with | some i => i.agg | none => false) (match E.ti b with | some i => i.agg | none => false) κ ν []))
        | _, _ => some (true, .map nm, H.put nm (.amap true []))
      | _ => none
    | _, _ => none
  | .makeSlice t l c => match E.ti t with
    | some { kind := .slice e, .. } => match E.ti e, E.ty e, ρ l, ρ c with
      | some i, some ty, .int _ n, .int _ m => match i.zero.full with
        | some zc => if zc.length = i.size ∧ ty.size = i.size ∧ 0 < i.size ∧ 0 < i.bytes then (match decH ty noHeap zc with
          | some (z, _, _) => some (ile 0 n && (ile n m && roomy m.toNat i.bytes), .hsl nm 0 none, H.put nm (.row true ty (List.replicate n.toNat z) 0))
          | none => none) else none
        | none => none
      | _, _, _, _ => none
    | _ => none
  | .slice t x lo hi mx => match mx with
    | some _ => none
    | none => match E.ti t with
      | some { kind := .str, .. } => match ρ x with
        | .str s => (boundsD s.length (optEv ρ lo) (optEv ρ hi)).map fun r => (r.1, .str ((s.take r.2.2).drop r.2.1), H)
        | _ => none
      | some { kind := .slice e, .. } => match E.ti e with
        | some j => match ρ x with
          | .nils => (boundsD 0 (optEv ρ lo) (optEv ρ hi)).map fun r => (r.1, .nils, H)
          | .sl t xs => if t.size = j.size then (boundsD xs.length (optEv ρ lo) (optEv ρ hi)).map fun r => (r.1, .sl t ((xs.take r.2.2).drop r.2.1), H) else none
          | .hsl n g sub => match H.get n with
            | some (.row _ t xs g') => if g' = g ∧ t.size = j.size then (boundsD (lenSub xs sub) (optEv ρ lo) (optEv ρ hi)).map fun r => (r.1, .hsl n g (some (offSub sub + r.2.1, r.2.2 - r.2.1)), H) else none
            | _ => none
          | _ => none
        | none => none
      | _ => none
  | .fieldAddr s x f => match E.ti s with
    | some { kind := .struct fs, .. } => match fs[f]? with
      | some (off, sz, _) => if sz = 0 then none else (match ρ x with
        | .ptr n o => some (true, .ptr n (o + off), H)
        | .iaddr cs => if off ≤ cs.length then some (true, .iaddr (cs.drop off), H) else none
        | .rptr n g i o => match H.get n with
          | some blk => if genOf blk = some g then some (true, .rptr n g i (o + off), H) else none
          | none => none
        | _ => none)
      | none => none
    | _ => none
  | .field t x f => match E.ti t with
    | some { kind := .struct fs, .. } => match fs[f]?, ρ x with
      | some (off, sz, ag), .agg cs => if off + sz ≤ cs.length then (one ag ((cs.drop off).take sz)).map fun v => (true, v, H) else none
      | _, _ => none
    | _ => none
  | .indexAddr t x ix => match E.ti t, ρ ix with
    | some { kind := .arr n e, .. }, .int _ i => match E.ti e, ρ x with
      | some j, .ptr m o => some (inb i n, .ptr m (o + i.toNat * j.size), H)
      | _, _ => none
    | some { kind := .slice e, .. }, .int _ i => match E.ti e with
      | some j => match ρ x with
        | .sl t xs => if t.size = j.size then some (inb i xs.length, .iaddr (enc t (rd xs i.toNat)), H) else none
        | .hsl n g sub => match H.get n with
          | some (.row _ t xs g') => if g' = g ∧ t.size = j.size then some (inb i (lenSub xs sub), .rptr n g (offSub sub + i.toNat) 0, H) else none
          | some (.urow false sz cs g') => if g' = g ∧ sz = j.size then (match sub with
            | none => some (inb i (cs.length / sz), .iaddr ((cs.drop (i.toNat * sz)).take sz), H)
            | some _ => none) else none
          | _ => none
        | _ => none
      | none => none
    | _, _ => none
  | .index t x ix => match E.ti t, ρ x, ρ ix with
    | some { kind := .str, .. }, .str s, .int _ i => some (inb i s.length, .int .u8 ((s.getD i.toNat 0).toNat : Int), H)
    | some { kind := .arr n e, .. }, .agg cs, .int _ i => match E.ti e, E.ty e with
      | some j, some ty => if ty.size = j.size then (match decRows ty n noHeap cs with
        | some (xs, _) => (one j.agg (enc ty (rd xs i.toNat))).map fun v => (inb i n, v, H)
        | none => none) else none
      | _, _ => none
    | _, _, _ => none
  | .lookup t x ix ok => match E.ti t with
    | some { kind := .map kt b, .. } => match E.ti b with
      | some i => (lookD E.key kt H i (ρ x) (ρ ix) ok).map fun v => (true, v, H)
      | none => none
    | _ => none
  | .mapUpdate t m key x | .insert t m key x => match E.ti t with
    | some { kind := .map kt _, .. } => putD E.key kt H (ρ m) (ρ key) (ρ x)
    | _ => none
  | .extract t i => match ρ t with
    | .tup vs => match vs[i]? with
      | some v => some (true, v, H)
      | none => none
    | _ => none
  | .call c => match c.callee with
    | .builtin b => builtinD E b c.argTypes.toList (c.args.toList.map ρ) H nm
    | _ => none
  | _ => none

/-- Does it leave the heap alone, and call nothing? -/
def quiet (o : Oper) : Bool := match o.op with
  | .move _ | .assign _ | .pick .. | .load .. | .nilCheck _ | .binOp .. | .unOp .. | .makeFunc .. | .slice .. | .fieldAddr .. | .field .. | .indexAddr .. | .index .. | .extract .. => true
  | .convert .. => false
  | .call c => match c.callee with
    | .builtin .len | .builtin .max | .builtin .min => true
    | _ => false
  | _ => false

def dstOf (ops : Array Oper) (j : Nat) : Option Tmp := (ops[j]?).bind (·.dst)

/-- What is known of slots that are written only where another slot holds true, or false. -/
structure Gd where
  slot : Nat
  key : Nat
  want : Bool
  val : A
abbrev Gs := List Gd
def gluk : Gs → Nat → Option Gd
  | [], _ => none
  | g :: r, n => if Nat.beq g.slot n then some g else gluk r n

/-- The value of a slot, where some slots are taken to hold true, or false. -/
def evG (tm : Fr) (gm : Gs) (as : List (Nat × Bool)) : Operand → A
  | .tmp t => match gluk gm t with
    | some g => if as.contains (g.key, g.want) then g.val else .bot
    | none => tm.get t
  | x => ev tm x

/-- What must hold for slot t to be told. -/
def need (gm : Gs) : Nat → Nat → List (Nat × Bool)
  | 0, _ => []
  | f + 1, t => match gluk gm t with
    | some g => (g.key, g.want) :: need gm f g.key
    | none => []
def eqw (b w : Bool) : Bool := match w with
  | true => b
  | false => !b
/-- Does slot t hold w? -/
def holds (tm : Fr) (gm : Gs) : Nat → Nat → Bool → Option Bool
  | 0, _, _ => none
  | f + 1, t, w => match gluk gm t with
    | some g => match g.val, holds tm gm f g.key g.want with
      | .bool b, some c => some (c && eqw b w)
      | _, _ => none
    | none => match tm.get t with
      | .bool b => some (eqw b w)
      | .tup [] => some false
      | _ => none
/-- Slot t has been found to hold b, or to hold none of both. -/
def resolve (t : Nat) (b : Option Bool) : Gs → Fr → Gs × Fr
  | [], tm => ([], tm)
  | g :: r, tm => match resolve t b r tm with
    | (gs, tm1) => if Nat.beq g.key t then (gs, (g.slot, if b = some g.want then g.val else .tup []) :: tm1) else (g :: gs, tm1)
/-- Is something known of a slot, or by it? -/
def clash (gm : Gs) (d : Option Tmp) : Bool := match d with
  | some d => gm.any fun g => Nat.beq g.slot d || Nat.beq g.key d
  | none => false

abbrev CallK (R : Type) := FuncId → List A → Heap → (A → Heap → Option R) → Option R

/-- A call. -/
def bigK (_E : Env) (call : CallK R) (ρ : Operand → A) (H : Heap) (o : Oper) (k : A → Heap → Option R) : Option R :=
  match o.op with
  | .call c => match c.callee with
    | .value f => match ρ f with
      | .func (.func g) first cap => call g (first ++ c.args.toList.map ρ ++ cap) H k
      | _ => none
    | _ => none
  | _ => none

/-- The heap, reckoned out as far as its count. -/
def Heap.norm {α : Type} (H : Heap) (k : Heap → α) : α := match H with
  | ⟨0, bs⟩ => k ⟨0, bs⟩
  | ⟨m + 1, bs⟩ => k ⟨m + 1, bs⟩
theorem Heap.norm_eq {α : Type} (H : Heap) (k : Heap → α) : H.norm k = k H := by
  obtain ⟨n, bs⟩ := H
  cases n <;> rfl

def opK (E : Env) (call : CallK R) (ρ : Operand → A) (H : Heap) (o : Oper) (k : A → Heap → Option R) : Option R :=
  match opD E ρ H H.next o with
  | some (ok, v, H1) => H1.norm fun H2 => br ok (k v H2) none
  | none => bigK E call ρ H o k

def guardFuel : Nat := 12

/-- Which slot a choice looks at. -/
def pickOf (o : Oper) : Option (Nat × Operand × Operand) := match o.op with
  | .pick (.tmp c) a b => some (c, a, b)
  | _ => none
/-- A choice: each side may take the slot to hold what leads to it. -/
def pickD (tm : Fr) (gm : Gs) (as : List (Nat × Bool)) (c : Nat) (a b : Operand) : Option A := match evG tm gm as (.tmp c) with
  | .bool t => some (A.pick t (evG tm gm ((c, true) :: as) a) (evG tm gm ((c, false) :: as) b))
  | _ => none
/-- An operation that leaves the heap alone, where some slots are taken to hold true, or false. -/
def quietD (E : Env) (tm : Fr) (gm : Gs) (as : List (Nat × Bool)) (H : Heap) (o : Oper) : Option (Bool × A) := match pickOf o with
  | some (c, a, b) => match pickD tm gm as c a b with
    | some v => some (true, v)
    | none => none
  | none => match opD E (evG tm gm as) H H.next o with
    | some (ok, v, _) => some (ok, v)
    | none => none
/-- What slots are known to hold where slot t is known to hold b, for good. -/
def settle (gm : Gs) (tm : Fr) (t : Nat) (b : Bool) : Gs × Fr := resolve t (some b) gm ((t, .bool b) :: tm)

/-- A region, in the text's order. -/
def regK (E : Env) (call : CallK R) (all : Array Oper) : List Oper → Fr → Gs → Heap → (Fr → Heap → Option R) → Option R
  | [], tm, _, H, K => K tm H
  | o :: rest, tm, gm, H, K =>
    match clash gm o.dst with
    | true => none
    | false =>
    match o.guard with
    | none =>
      match pickOf o with
      | some (c, a, b) => match pickD tm gm [] c a b with
        | some v => regK E call all rest (setT tm o.dst v) gm H K
        | none => none
      | none => opK E call (evG tm gm []) H o fun v H1 => regK E call all rest (setT tm o.dst v) gm H1 K
    | some (j, want) => match dstOf all j with
      | none => none
      | some t => match holds tm gm guardFuel t want with
        | none => none
        | some g =>
          if quiet o then
            match quietD E tm gm ((t, want) :: need gm guardFuel t) H o, o.dst with
            | some (ok, v), some d => br (ok || !g) (regK E call all rest ((d, .bot) :: tm) (⟨d, t, want, v⟩ :: gm) H K) none
            | some (ok, _), none => br (ok || !g) (regK E call all rest tm gm H K) none
            | none, _ => br g none (regK E call all rest (setT tm o.dst (.tup [])) gm H K)
          else
            br g
              (opK E call (evG tm gm ((t, want) :: need gm guardFuel t)) H o fun v H1 =>
                match settle gm (setT tm o.dst v) t want with
                | (gm2, tm2) => regK E call all rest tm2 gm2 H1 K)
              (match gluk gm t, tm.get t with
                | none, .bool _ => match settle gm (setT tm o.dst (.tup [])) t (!want) with
                  | (gm2, tm2) => regK E call all rest tm2 gm2 H K
                | _, _ => regK E call all rest (setT tm o.dst (.tup [])) gm H K)
end Go.VI
