/-
  The meaning of single operations over the abstract heap, with what follows behind a continuation.
-/
import Derived.Test.YtjocfknaojbemaaVIDefs
namespace Go.VI

def ev (tm : Fr) : Operand → A
  | .tmp t => tm.get t
  | .const v => ofConst v
  | .global _ => .bot
  | .func f => .func (.func f) [] []

/-- The cells of a value that is known to be one. -/
def A.full : A → Option (List A)
  | .bot => none
  | .tup _ => none
  | .agg cs => some cs
  | a => some [a]

def setT (tm : Fr) (d : Option Tmp) (v : A) : Fr := match d with
  | some d => (d, v) :: tm
  | none => tm

/-- The elements that a slice's value shows of its row. -/
def subOf {α : Type} (xs : List α) : Option (Nat × Nat) → List α
  | none => xs
  | some (o, l) => (xs.drop o).take l

/-- From cells to typed data; rows and structs that are met are written no more from then on. -/
def decH : (t : Ty) → Heap → List A → Option (t.den × List A × Heap)
  | .unit, H, l => some ((), l, H)
  | .bool, H, l => match l with | .bool b :: r => some (b, r, H) | _ => none
  | .int k, H, l => match l with | .int k' n :: r => if k' = k then some (n, r, H) else none | _ => none
  | .str, H, l => match l with | .str s :: r => some (s, r, H) | _ => none
  | .sl e, H, l => match l with
    | .nils :: r => some ([], r, H)
    | .sl e' xs :: r => if h : e' = e then some (h ▸ xs, r, H) else none
    | .hsl n g sub :: r => match H.get n with
      | some (.row _ e' xs g') => if h : e' = e then (if g' = g then some (subOf (h ▸ xs) sub, r, H.set n (.row false e' xs g')) else none) else none
      | _ => none
    | _ => none
  | .fn, H, l => match l with
    | .nilf :: r => some (none, r, H)
    | .func (.func f) [] [] :: r => some (some f, r, H)
    | _ => none
  | .nsl e, H, l => match l with
    | .nils :: r => some (none, r, H)
    | .sl e' xs :: r => if h : e' = e then some (some (h ▸ xs), r, H) else none
    | .hsl n g sub :: r => match H.get n with
      | some (.row _ e' xs g') => if h : e' = e then (if g' = g then some (some (subOf (h ▸ xs) sub), r, H.set n (.row false e' xs g')) else none) else none
      | _ => none
    | _ => none
  | .pair a b, H, l => match decH a H l with
    | some (x, r, H1) => match decH b H1 r with
      | some (y, r', H2) => some ((x, y), r', H2)
      | none => none
    | none => none
  | .ref t, H, l => match l with
    | .nilp :: r => some (none, r, H)
    | .iaddr cs :: r => match decH t H cs with
      | some (x, _, H1) => some (some x, r, H1)
      | none => none
    | .ptr n o :: r => if o = 0 then (match H.get n with
      | some (.cells _ cs) => match decH t H cs with
        | some (x, [], H1) => some (some x, r, H1.set n (.cells false cs))
        | _ => none
      | _ => none) else none
    | _ => none

/-- No memory: what is read so has none. -/
def noHeap : Heap := ⟨0, []⟩

/-- So many elements, one behind the other. -/
def decRows (t : Ty) : Nat → Heap → List A → Option (List t.den × Heap)
  | 0, H, [] => some ([], H)
  | 0, _, _ :: _ => none
  | n + 1, H, l => match decH t H l with
    | some (x, r, H1) => match decRows t n H1 r with
      | some (xs, H2) => some (x :: xs, H2)
      | none => none
    | none => none

def genOf : Blk → Option Nat
  | .row _ _ _ g | .urow _ _ _ g => some g
  | _ => none
def lenSub {α : Type} (xs : List α) : Option (Nat × Nat) → Nat
  | none => xs.length
  | some (_, l) => l
def offSub : Option (Nat × Nat) → Nat
  | none => 0
  | some (o, _) => o

def inb (i : Int) (n : Nat) : Bool := ile 0 i && ilt i (n : Int)
/-- 2^47 bytes: what an append or a make may come to. -/
def roomy (n : Nat) (bytes : Nat) : Bool := Nat.ble (n * bytes) 140737488355328

variable {R : Type}

/-- The cells at an address: 'n' of them. -/
def cellsAt (H : Heap) : A → Nat → Option (List A)
  | .ptr n o, sz => match H.get n with
    | some (.cells _ cs) => if o + sz ≤ cs.length then some ((cs.drop o).take sz) else none
    | _ => none
  | .iaddr cs, sz => if sz ≤ cs.length then some (cs.take sz) else none
  | .rptr n g i o, sz => match H.get n with
    | some (.row _ t xs g') => if g' = g then (if o + sz ≤ t.size then some (((enc t (rd xs i)).drop o).take sz) else none) else none
    | _ => none
  | _, _ => none

def storeAt (H : Heap) (a : A) (vs : List A) : Option Heap := match a with
  | .ptr n o => match H.get n with
    | some (.cells true cs) => if o + vs.length ≤ cs.length then some (H.set n (.cells true (splice cs o vs))) else none
    | _ => none
  | .rptr n g i o => match H.get n with
    | some (.row true t xs g') => if g' = g then (if o + vs.length ≤ t.size then
        match decH t H (splice (enc t (rd xs i)) o vs) with
        | some (x, [], H1) => match H1.get n with
          | some (.row true _ _ _) => some (H1.set n (.row true t (xs.set i x) g))
          | _ => none
        | _ => none else none) else none
    | _ => none
  | _ => none

def fillK (place : Nat → Option (Nat × Nat)) (cells : List A) : List (Nat × A) → Option (List A)
  | [] => some cells
  | (i, v) :: rest => match place i, v.full with
    | some (off, size), some vs => if vs.length = size ∧ off + size ≤ cells.length then fillK place (splice cells off vs) rest else none
    | _, _ => none

def zeros (z : List A) : Nat → List A
  | 0 => []
  | n + 1 => z ++ zeros z n

def binD (kd : TK) (op : BinOp) (x y : A) : Option (Bool × A) := match op, x, y with
  | .shl, .int j a, .int _ b => some (ile 0 b, .int j (shlK j a b))
  | .shr, .int j a, .int _ b => some (ile 0 b, .int j (shrK j a b))
  | op, .int j a, .int j' b => if j = j' then (match op with
    | .add => some (true, .int j (wrapK j (a + b)))
    | .sub => some (true, .int j (wrapK j (a - b)))
    | .mul => some (true, .int j (wrapK j (a * b)))
    | .quo => some (!ieq b 0, .int j (wrapK j (a.tdiv b)))
    | .rem => some (!ieq b 0, .int j (a.tmod b))
    | .and | .or | .xor | .andNot => some (true, .int j (bitsK op j a b))
    | .eql => some (true, .bool (ieq a b))
    | .neq => some (true, .bool (!ieq a b))
    | .lss => some (true, .bool (ilt a b))
    | .leq => some (true, .bool (ile a b))
    | .gtr => some (true, .bool (ilt b a))
    | .geq => some (true, .bool (ile b a))
    | _ => none) else none
  | .add, .str a, .str b => some (Nat.ble (a.length + b.length) 9223372036854775807, .str (a ++ b))
  | .eql, .str a, .str b => some (true, .bool (a == b))
  | .neq, .str a, .str b => some (true, .bool (!(a == b)))
  | .lss, .str a, .str b => some (true, .bool (strLt a b))
  | .leq, .str a, .str b => some (true, .bool (strLt a b || a == b))
  | .gtr, .str a, .str b => some (true, .bool (!(strLt a b || a == b)))
  | .geq, .str a, .str b => some (true, .bool (!strLt a b))
  | .eql, x, y => (eqT kd x y).map fun b => (true, .bool b)
  | .neq, x, y => (eqT kd x y).map fun b => (true, .bool (!b))
  | _, _, _ => none

/-- Two bounds of a slice expression over n elements: do they hold; the bounds. -/
def boundsD (n : Nat) (lo hi : Option A) : Option (Bool × Nat × Nat) :=
  match lo, hi with
  | none, none => some (true, 0, n)
  | none, some (.int _ h) => some (ile 0 h && ile h (n : Int), 0, h.toNat)
  | some (.int _ l), none => some (ile 0 l && ile l (n : Int), l.toNat, n)
  | some (.int _ l), some (.int _ h) => some (ile 0 h && (ile h (n : Int) && (ile 0 l && ile l h)), l.toNat, h.toNat)
  | _, _ => none

def optEv (ρ : Operand → A) : Option Operand → Option A
  | none => none
  | some x => some (ρ x)

/-- The elements of a slice, as typed data. -/
def elems (H : Heap) (t : Ty) : A → Option (List t.den)
  | .nils => some []
  | .sl t' xs => if h : t' = t then some (h ▸ xs) else none
  | .hsl n g sub => match H.get n with
    | some (.row _ t' xs g') => if h : t' = t then (if g' = g then some (subOf (h ▸ xs) sub) else none) else none
    | _ => none
  | _ => none

def lenD (H : Heap) (x : A) : Option A := match x with
  | .str s => some (.int .i64 s.length)
  | .nils => some (.int .i64 0)
  | .nilm => some (.int .i64 0)
  | .sl _ xs => some (.int .i64 xs.length)
  | .hsl n g sub => match H.get n with
    | some (.row _ _ xs g') => if g' = g then some (.int .i64 (lenSub xs sub)) else none
    | some (.urow _ sz cs g') => if g' = g then (match sub with
      | none => some (.int .i64 (cs.length / sz : Nat))
      | some _ => none) else none
    | _ => none
  | .map n => match H.get n with
    | some (.tmap _ _ _ _ _ es) => some (.int .i64 es.length)
    | some (.amap _ es) => some (.int .i64 es.length)
    | _ => none
  | _ => none

def Ty.beq : (t : Ty) → t.den → t.den → Bool
  | .unit, _, _ => true
  | .bool, a, b => a == b
  | .int _, (a : Int), (b : Int) => ieq a b
  | .str, (a : List UInt8), (b : List UInt8) => a == b
  | .sl _, _, _ => false
  | .pair a b, x, y => a.beq x.1 y.1 && b.beq x.2 y.2
  | .ref _, _, _ => false
  | .fn, _, _ => false
  | .nsl _, _, _ => false

def look {κ ν : Ty} (es : List (κ.den × ν.den)) (key : κ.den) : Option ν.den := (es.find? fun e => κ.beq e.1 key).map (·.2)
def upd {κ ν : Ty} (es : List (κ.den × ν.den)) (key : κ.den) (v : ν.den) : List (κ.den × ν.den) :=
  br (es.any (fun e => κ.beq e.1 key)) (es.map (fun e => br (κ.beq e.1 key) (e.1, v) e)) (es ++ [(key, v)])
def del {κ ν : Ty} (es : List (κ.den × ν.den)) (key : κ.den) : List (κ.den × ν.den) := es.filter fun e => !κ.beq e.1 key

def A.isAgg : A → Bool
  | .agg _ => true
  | _ => false
/-- A plain type's cells are of these kinds. -/
def fitK : Ty → List TK → Option (List TK)
  | .unit, l => some l
  | .bool, .bool :: r => some r
  | .int k, .int j :: r => if k = j then some r else none
  | .str, .str :: r => some r
  | .pair a b, l => match fitK a l with
    | some r => fitK b r
    | none => none
  | _, _ => none
/-- Keys of a type are told apart as typed data are. -/
def keyOk (K : TypeId → Option (List TK × Bool)) (kt : TypeId) (κ : Ty) (ka : Bool) : Bool := match K kt with
  | some (ks, ag) => match fitK κ ks with
    | some [] => ag == ka
    | _ => false
  | none => false
def nilOk (K : TypeId → Option (List TK × Bool)) (kt : TypeId) (n : Nat) (ag : Bool) : Bool := match K kt with
  | some (ks, g) => Nat.beq ks.length n && g == ag
  | none => false

/-- A look-up in an untyped map: keys are tried in turn. -/
def alook (ks : List TK) (es : List (A × A)) (key : A) (k : Option A → Option R) : Option R := match es with
  | [] => k none
  | (x, v) :: r => match eqCells ks x.cells key.cells with
    | some b => br b (k (some v)) (alook ks r key k)
    | none => none

end Go.VI
