/-
  Regions whose order is drawn: a plan, by which one walk serves all orders.
-/
import Derived.Test.YtjocfknaojbemaaVIRunA
namespace Go.VI

/-- An operation's place: 0: it only reads, 1: it lays a new block, 2: it does what may be seen. At which stage it may come up first; before which stage's end it has come up. -/
structure Pl where
  k : Nat
  lo : Nat
  hi : Nat
  deriving Inhabited

def preOf (o : Oper) : List Nat := (o.after.toList.filter (Region.binds .any)).map (·.on)

def kindO (o : Oper) : Nat := match o.op with
  | .move _ | .assign _ | .pick .. | .load .. | .nilCheck _ | .binOp .. | .unOp .. | .makeFunc .. | .slice .. | .fieldAddr .. | .field .. | .indexAddr .. | .index .. | .extract .. | .lookup .. | .build .. => 0
  | .convert .. => 0
  | .alloc _ | .box .. | .makeMap _ none => 1
  | .call c => match c.callee with
    | .builtin .len | .builtin .max | .builtin .min => 0
    | _ => 2
  | _ => 2

/-- An insert into a map that the region makes itself: that map's slot. -/
def isIns (all : Array Oper) (o : Oper) : Option Nat := match o.op, o.guard, o.dst with
  | .insert _ (.tmp s) _ _, none, none => if all.toList.any (fun x => x.dst == some s && (match x.op with | .makeMap _ none => x.guard.isNone | _ => false)) then some s else none
  | _, _, _ => none
def kindR (all : Array Oper) (o : Oper) : Nat := match isIns all o with
  | some _ => 3
  | none => kindO o

/-- When an operation may come up: behind as many effects. -/
def loAt (ps : List Pl) (l : List Nat) : Nat := l.foldr (fun j m => match ps[j]? with
  | some p => Nat.max m (if p.k = 2 then p.lo + 1 else p.lo)
  | none => m) 0
def loGo (all : Array Oper) : List Oper → List Pl → List Pl
  | [], ps => ps
  | o :: r, ps => loGo all r (ps ++ [⟨kindR all o, loAt ps (preOf o), 0⟩])
/-- The first effect that waits for an operation; 'm': none. From the last operation on. -/
def hiAt (i m : Nat) : Nat → List Oper → List Pl → Nat
  | _, o :: os, p :: ps => Nat.min (if (preOf o).contains i then (if p.k = 2 then p.lo else p.hi) else m) (hiAt i m 0 os ps)
  | _, _, _ => m
def hiGo (ops : List Oper) (m : Nat) : Nat → List Pl → List Pl
  | 0, ps => ps
  | i + 1, ps => hiGo ops m i (ps.modify i fun p => ⟨p.k, p.lo, hiAt i m 0 ops ps⟩)
def effects (ps : List Pl) : Nat := (ps.filter fun p => p.k == 2).length
def mkPl (all : Array Oper) (ops : List Oper) : List Pl :=
  let ps := loGo all ops []
  hiGo ops (effects ps) ops.length ps

/-- Behind what an operation waits for. -/
def okPre (ps : List Pl) (i : Nat) (p : Pl) (j : Nat) : Bool := Nat.blt j i && (match ps[j]? with
  | some q => if q.k = 2 then Nat.blt q.lo p.lo else Nat.ble q.lo p.lo
  | none => false)
def okLo (ps : List Pl) (p : Pl) (j : Nat) : Bool := match ps[j]? with
  | some q => if q.k = 2 then Nat.beq (q.lo + 1) p.lo else Nat.beq q.lo p.lo
  | none => false
def okHi (ops : List Oper) (ps : List Pl) (i : Nat) (p : Pl) (s : Nat) : Bool := match ops[s]?, ps[s]? with
  | some o, some q => Nat.blt i s && (preOf o).contains i && (if q.k = 2 then Nat.ble q.lo p.hi else Nat.ble q.hi p.hi)
  | _, _ => false
def okSlot (ops : List Oper) (i : Nat) (o : Oper) (looks : List Nat) (j : Nat) : Bool := match ops[j]? with
  | some x => match x.dst with
    | some t => (!looks.contains t || (preOf o).contains j) && (Nat.beq i j || !(o.dst == some t))
    | none => true
  | none => true
def okIns (all : Array Oper) (ops : List Oper) (ps : List Pl) (i : Nat) (o : Oper) (p : Pl) : Bool := match isIns all o with
  | none => true
  | some s => Nat.beq p.lo 0 && (List.range ops.length).all fun j => match ops[j]?, ps[j]? with
    | some x, some q => (if x.dst = some s then (preOf o).contains j && (Nat.ble p.hi q.hi && Nat.beq q.k 1) else true) && ((isIns all x).isSome || (!(x.looksAt all).contains s || (preOf x).contains i))
    | _, _ => true
def okAt (all : Array Oper) (ops : List Oper) (ps : List Pl) (m i : Nat) : Bool := match ops[i]?, ps[i]? with
  | some o, some p => okIns all ops ps i o p && Nat.beq p.k (kindR all o) && (preOf o).all (okPre ps i p) && (Nat.beq p.lo 0 || (preOf o).any (okLo ps p)) &&
    (if p.k = 2 then Nat.blt p.lo m && (List.range ops.length).all (fun j => Nat.beq i j || match ps[j]? with | some q => !(Nat.beq q.k 2 && Nat.beq q.lo p.lo) | none => true)
      else Nat.ble p.lo p.hi && (Nat.beq p.hi m || (Nat.ble p.hi m && (List.range ops.length).any (okHi ops ps i p)))) &&
    (List.range ops.length).all (okSlot ops i o (o.looksAt all)) && (match o.op with | .select .. => false | _ => true)
  | _, _ => false
def okPl (all : Array Oper) (ops : List Oper) (ps : List Pl) (m : Nat) : Bool :=
  Nat.beq ps.length ops.length && (List.range ops.length).all (okAt all ops ps m) && (List.range m).all fun r => ps.any fun p => Nat.beq p.k 2 && Nat.beq p.lo r

variable {R : Type}

def sameL' {α : Type} (f : α → α → Bool) : List α → List α → Bool
  | [], [] => true
  | a :: r, b :: s => f a b && sameL' f r s
  | _, _ => false
def Ty.same : (t : Ty) → t.den → t.den → Bool
  | .unit, _, _ => true
  | .bool, a, b => eqw a b
  | .int _, (a : Int), (b : Int) => ieq a b
  | .str, (a : List UInt8), (b : List UInt8) => a == b
  | .sl e, (a : List e.den), (b : List e.den) => sameL' e.same a b
  | .pair a b, x, y => a.same x.1 y.1 && b.same x.2 y.2
  | .ref t, x, y => match x, y with
    | none, none => true
    | some x, some y => t.same x y
    | _, _ => false
  | .fn, x, y => match x, y with
    | none, none => true
    | some a, some b => Nat.beq a b
    | _, _ => false
  | .nsl e, x, y => match x, y with
    | none, none => true
    | some x, some y => sameL' e.same x y
    | _, _ => false
mutual
/-- Are two values seen to be one? -/
def A.same : A → A → Bool
  | .bool a, .bool b => eqw a b
  | .int k n, .int j m => decide (k = j) && ieq n m
  | .str a, .str b => a == b
  | .nilp, .nilp => true
  | .nils, .nils => true
  | .nilm, .nilm => true
  | .nilf, .nilf => true
  | .nili, .nili => true
  | .ptr n o, .ptr m p => Nat.beq n m && Nat.beq o p
  | .sl t xs, .sl u ys => if h : t = u then u.sl.same (h ▸ xs) ys else false
  | .hsl n g s, .hsl m k t => Nat.beq n m && (Nat.beq g k && decide (s = t))
  | .rptr n g i o, .rptr m k j p => Nat.beq n m && (Nat.beq g k && (Nat.beq i j && Nat.beq o p))
  | .map n, .map m => Nat.beq n m
  | .iter n, .iter m => Nat.beq n m
  | .func (.func f) a b, .func (.func g) c d => Nat.beq f g && (A.sameL a c && A.sameL b d)
  | .iface t a, .iface u b => Nat.beq t u && A.same a b
  | .iaddr a, .iaddr b => A.sameL a b
  | .agg a, .agg b => A.sameL a b
  | .tup a, .tup b => A.sameL a b
  | _, _ => false
def A.sameL : List A → List A → Bool
  | [], [] => true
  | a :: r, b :: s => A.same a b && A.sameL r s
  | _, _ => false
end

/-- Is an operation wanted? -/
def guardV (all : Array Oper) (tm : Fr) (o : Oper) : Option Bool := match o.guard with
  | none => some true
  | some (j, want) => match dstOf all j with
    | none => none
    | some t => match tm.get t with
      | .bool b => some (eqw b want)
      | .tup [] => some false
      | _ => none
/-- A new block's name; what lies in it. -/
def nvO (o : Oper) (nm : Nat) : A := match o.op with
  | .makeMap _ _ => .map nm
  | _ => .ptr nm 0
def contentO (E : Env) (ρ : Operand → A) (o : Oper) : Option Blk := match o.op with
  | .alloc e => match E.ti e with
    | some i => match i.zero.full with
      | some cs => some (.cells true cs)
      | none => none
    | none => none
  | .box _ x => match (ρ x).full with
    | some cs => some (.cells true cs)
    | none => none
  | .makeMap t none => match E.ti t with
    | some { kind := .map a b, .. } => match E.ty a, E.ty b with
      | some κ, some ν => some (.tmap true (match E.ti a with | some i => i.agg | none => false) (match E.ti b with | some i => i.agg | none => false) κ ν [])
      | _, _ => some (.amap true [])
    | _ => none
  | _ => none
/-- The entry that an insert makes. -/
def insP (E : Env) (ρ : Operand → A) (ka va : Bool) (κ ν : Ty) (o : Oper) : Option (κ.den × ν.den) := match o.op with
  | .insert t _ key x => match E.ti t with
    | some { kind := .map kt _, .. } => if keyOk E.key kt κ ka = true ∧ (ρ key).isAgg = ka ∧ (ρ x).isAgg = va then (match (ρ key).full, (ρ x).full with
      | some cs, some vs => match decH κ noHeap cs, decH ν noHeap vs with
        | some (y, [], _), some (z, [], _) => some (y, z)
        | _, _ => none
      | _, _ => none) else none
    | _ => none
  | _ => none
/-- A map's block, with what is put into it. -/
def fillM (E : Env) (all : Array Oper) (ρ : Operand → A) (s : Nat) : List Oper → Blk → Option Blk
  | [], blk => some blk
  | o :: r, blk => match isIns all o with
    | none => fillM E all ρ s r blk
    | some s' => if s' = s then (match blk with
      | .tmap true ka va κ ν es => match insP E ρ ka va κ ν o with
        | some e => match look es e.1 with
          | none => fillM E all ρ s r (.tmap true ka va κ ν (es ++ [e]))
          | some _ => none
        | none => none
      | _ => none) else fillM E all ρ s r blk
def contentF (E : Env) (all : Array Oper) (ρ : Operand → A) (o : Oper) : Option Blk := match contentO E ρ o with
  | none => none
  | some blk => match o.op, o.dst with
    | .makeMap _ _, some s => fillM E all ρ s all.toList blk
    | _, _ => some blk
/-- The maps that the region makes, with what is put into them, can be told. -/
def fillsOk (E : Env) (all : Array Oper) (ρ : Operand → A) : List Oper → Bool
  | [] => true
  | o :: r => (match o.op with
    | .makeMap _ none => (contentF E all ρ o).isSome
    | _ => true) && fillsOk E all ρ r
def sameD (tm : Fr) (d : Option Tmp) (v : A) : Bool := match d with
  | some d => A.same v (tm.get d)
  | none => true

/-- A test's value, told apart where others hang on it. -/
def splitB (v : A) (k : A → Option R) : Option R := match v with
  | .bool b => br b (k (.bool true)) (k (.bool false))
  | v => k v
theorem splitB_eq (v : A) (k : A → Option R) : splitB v k = k v := by
  cases v with
  | bool b => cases b <;> rfl
  | _ => rfl
def isGuard (all : Array Oper) (i : Nat) : Bool := all.toList.any fun o => match o.guard with
  | some (j, _) => Nat.beq j i
  | none => false
def splitG (all : Array Oper) (i : Nat) (v : A) (k : A → Option R) : Option R := bif isGuard all i then splitB v k else k v
theorem splitG_eq (all : Array Oper) (i : Nat) (v : A) (k : A → Option R) : splitG all i v k = k v := by
  unfold splitG
  cases isGuard all i
  · rfl
  · exact splitB_eq v k

/-- Regions in the text's order where a call hangs on a test that hangs on another one: tests are told apart, one by one. -/
def splitMode (ops : Array Oper) : Bool := ops.toList.any fun o => match o.guard with
  | some (j, _) => !quiet o && (match ops[j]? with | some x => x.guard.isSome | none => false)
  | none => false
def regS (E : Env) (call : CallK R) (all : Array Oper) : Nat → List Oper → Fr → Heap → (Fr → Heap → Option R) → Option R
  | _, [], tm, H, K => K tm H
  | i, o :: rest, tm, H, K => match o.guard with
    | none => opK E call (ev tm) H o fun v H1 => splitG all i v fun v => regS E call all (i + 1) rest (setT tm o.dst v) H1 K
    | some (j, want) => match dstOf all j with
      | none => none
      | some t => match tm.get t with
        | .bool b => br (eqw b want) (opK E call (ev tm) H o fun v H1 => splitG all i v fun v => regS E call all (i + 1) rest (setT tm o.dst v) H1 K) (regS E call all (i + 1) rest (setT tm o.dst (.tup [])) H K)
        | .tup [] => regS E call all (i + 1) rest (setT tm o.dst (.tup [])) H K
        | _ => none

/-- What may come up at stage q, read; what has been read before is read again. -/
def bindK (E : Env) (all : Array Oper) (nm0 q : Nat) : Nat → List Oper → List Pl → Fr → Heap → (Fr → Option R) → Option R
  | i, o :: os, p :: ps, tm, H, k =>
    bif Nat.beq p.k 2 || !(Nat.ble p.lo q && Nat.ble q p.hi) then bindK E all nm0 q (i + 1) os ps tm H k else
    match guardV all tm o with
    | none => none
    | some g => br g
      (bif Nat.beq p.k 0 then (match opD E (ev tm) H H.next o with
        | some (ok, v, _) => br ok (bif Nat.beq p.lo q then splitG all i v (fun v => bindK E all nm0 q (i + 1) os ps (setT tm o.dst v) H k) else br (sameD tm o.dst v) (bindK E all nm0 q (i + 1) os ps tm H k) none) none
        | none => none)
      else bif Nat.beq p.k 3 then bindK E all nm0 q (i + 1) os ps tm H k
      else (match contentO E (ev tm) o, o.dst with
        | some _, some d => bif Nat.beq p.lo q then bindK E all nm0 q (i + 1) os ps ((d, nvO o (nm0 + i)) :: tm) H k else br (A.same (nvO o (nm0 + i)) (tm.get d)) (bindK E all nm0 q (i + 1) os ps tm H k) none
        | _, _ => none))
      (bif Nat.beq p.lo q then bindK E all nm0 q (i + 1) os ps (setT tm o.dst (.tup [])) H k else br (sameD tm o.dst (.tup [])) (bindK E all nm0 q (i + 1) os ps tm H k) none)
  | _, _, _, tm, _, k => k tm

/-- Blocks that must be there at a stage's end. -/
def putK (E : Env) (all : Array Oper) (nm0 q : Nat) : Nat → List Oper → List Pl → Fr → Heap → Option Heap
  | i, o :: os, p :: ps, tm, H => bif Nat.beq p.k 1 && Nat.beq p.hi q then (match guardV all tm o with
      | some true => match contentF E all (ev tm) o with
        | some blk => putK E all nm0 q (i + 1) os ps tm (H.put (nm0 + i) blk)
        | none => none
      | some false => putK E all nm0 q (i + 1) os ps tm H
      | none => none) else putK E all nm0 q (i + 1) os ps tm H
  | _, _, _, _, H => some H

def effAt : List Oper → List Pl → Nat → Option Oper
  | o :: os, p :: ps, q => bif Nat.beq p.k 2 && Nat.beq p.lo q then some o else effAt os ps q
  | _, _, _ => none

/-- A stage's end: blocks, and the effect; or what follows. -/
def effK (E : Env) (call : CallK R) (all : Array Oper) (ops : List Oper) (ps : List Pl) (nm0 : Nat) (K : Fr → Heap → Option R) (f q : Nat) (next : Fr → Heap → Option R) (tm : Fr) (H : Heap) : Option R := bif fillsOk E all (ev tm) ops then match putK E all nm0 q 0 ops ps tm H with
  | none => none
  | some H1 => H1.norm fun H2 => match f with
    | 0 => K tm H2
    | _ => match effAt ops ps q with
      | none => none
      | some o => match guardV all tm o with
        | none => none
        | some g => br g (opK E call (ev tm) H2 o fun v H3 => next (setT tm o.dst v) H3) (next (setT tm o.dst (.tup [])) H2)
  else none
/-- The stages, one behind the other. -/
def drawnK (E : Env) (call : CallK R) (all : Array Oper) (ops : List Oper) (ps : List Pl) (nm0 : Nat) (K : Fr → Heap → Option R) : Nat → Nat → Fr → Heap → Option R
  | 0, _, _, _ => none
  | f + 1, q, tm, H => bindK E all nm0 q 0 ops ps tm H fun tm1 => effK E call all ops ps nm0 K f q (drawnK E call all ops ps nm0 K f (q + 1)) tm1 H

/-- The region. -/
def drawK (E : Env) (call : CallK R) (all : Array Oper) (tm : Fr) (H : Heap) (K : Fr → Heap → Option R) : Option R :=
  let ops := all.toList
  let ps := mkPl all ops
  bif okPl all ops ps (effects ps) && E.P.follows .mixedOrders then drawnK E call all ops ps H.next K (effects ps + 1) 0 tm ⟨H.next + ops.length, H.bs⟩ else none

end Go.VI
