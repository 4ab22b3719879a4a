/-
  SvcKnown: its loops; it comes to true.
-/
import Derived.Test.YtjocfknaojbemaaSvcFns
namespace Go.VI.Svc
open Go.Proofs

/-- The tables, where rows of calls are never told to be nil. -/
noncomputable def E2 : Env := { E with ty := fun t => if Nat.beq t 26 then some (.sl CallT) else if Nat.beq t 22 then some (.sl (.sl CallT)) else E.ty t }
theorem E2_ok : EnvOk Try.prog E2 := ⟨E_ok.prog, E_ok.ti, E_ok.ok, E_ok.cmp, E_ok.key⟩
def fns3 (ok : Fc → List CallT.den → Bool) : List (Nat × TE) := [(9, trueTE ok), (10, trueTE ok), (11, trueTE2 ok), (12, trueTE2 ok), (21, worksTE)]
theorem fns3_ok : ∀ q ∈ fns3 okFL, FnOk Try.prog q.1 q.2 := fun q hq => by
  simp only [fns3, List.mem_cons, List.not_mem_nil, or_false] at hq
  rcases hq with rfl | rfl | rfl | rfl | rfl
  · exact true9
  · exact true10
  · exact true11
  · exact true12
  · exact works_ok

def nm27 := normG [0, 1, 5, 6, 7, 8, 9, 10, 11] [] [] []
def fr27 (t r i : Int) : Fr := [(0, .bool false), (1, .hsl 169 0 none), (5, .int .u8 t), (6, .int .u8 r), (7, .ptr 165 0), (8, .ptr 166 0), (9, .ptr 167 0), (10, .ptr 168 0), (11, .int .i64 i)]
def hp27 (ws : List Str) (u : Bool) (L : List (List CallT.den)) (t : Int) (rm : Bool) (r k : Int) : Heap :=
  ⟨171, [(169, .row true (.sl CallT) L 0), (170, .row u .str ws 0), (168, .cells true (f0 true k 0 false 0 0 0 0 .nils)), (167, .cells true (f0 true 1 t rm r 100 9223372036854775807 9223372036854775807 (.hsl 170 0 none))), (166, .cells true (f0 true 1 t rm r 100 1000 50 .nils)), (165, .cells true (f0 true 1 t rm r 100 1000 50 (.hsl 170 0 none)))]⟩
def to27 {R : Type} (K : Bool → Int → Option R) (tm : Fr) (H : Heap) : Option R := match tm.get 11, H.get 170 with
  | .int _ i, some (.row u _ _ _) => K u i
  | _, _ => none
def t27 {R : Type} (ok : Fc → List CallT.den → Bool) (ws : List Str) (L : List (List CallT.den)) (t : Int) (rm : Bool) (r k : Int) (u : Bool) (i : Int) (KN KX KR : Bool → Int → Option R) : Option R :=
  (br (ilt i (Int.ofNat (List.length L))) (br (inb i (List.length L)) (br (ok ⟨1, t, rm, r, 100, 1000, 50, (subOf ws none)⟩ (@rd (Ty.sl (Ty.pair (Ty.int .u8) (Ty.pair
    (Ty.int .i64) (Ty.int .u32)))) L (0 + (Int.toNat i)))) (br (inb i (List.length L)) (br (ok ⟨1, t, rm, r, 100, 1000, 50, (subOf ws none)⟩ (@rd (Ty.sl (Ty.pair (Ty.int
    .u8) (Ty.pair (Ty.int .i64) (Ty.int .u32)))) L (0 + (Int.toNat i)))) (br (ieq (Int.tmod i 7) 0) (br (inb i (List.length L)) (br ((ile 0 (Int.tmod i 8)) && (ile
    (Int.tmod i 8) (Int.ofNat (List.length (@rd (Ty.sl (Ty.pair (Ty.int .u8) (Ty.pair (Ty.int .i64) (Ty.int .u32)))) L (0 + (Int.toNat i))))))) (br (ok ⟨1, t, rm, r, 100,
    1000, 50, (subOf ws none)⟩ (List.take (Int.toNat (Int.tmod i 8)) (@rd (Ty.sl (Ty.pair (Ty.int .u8) (Ty.pair (Ty.int .i64) (Ty.int .u32)))) L (0 + (Int.toNat i))))) (br
    (inb i (List.length L)) (br ((ile 0 (Int.tmod i 8)) && (ile (Int.tmod i 8) (Int.ofNat (List.length (@rd (Ty.sl (Ty.pair (Ty.int .u8) (Ty.pair (Ty.int .i64) (Ty.int
    .u32)))) L (0 + (Int.toNat i))))))) (br (ok ⟨1, t, rm, r, 100, 1000, 50, (subOf ws none)⟩ (List.take (Int.toNat (Int.tmod i 8)) (@rd (Ty.sl (Ty.pair (Ty.int .u8)
    (Ty.pair (Ty.int .i64) (Ty.int .u32)))) L (0 + (Int.toNat i))))) (br (inb i (List.length L)) (br (ok ⟨1, t, rm, r, 100, 1000, 50, []⟩ (@rd (Ty.sl (Ty.pair (Ty.int .u8)
    (Ty.pair (Ty.int .i64) (Ty.int .u32)))) L (0 + (Int.toNat i)))) (br (inb i (List.length L)) (br (ok ⟨1, t, rm, r, 100, 1000, 50, []⟩ (@rd (Ty.sl (Ty.pair (Ty.int .u8)
    (Ty.pair (Ty.int .i64) (Ty.int .u32)))) L (0 + (Int.toNat i)))) (br (ieq (Int.tmod i 7) 0) (br (inb i (List.length L)) (br ((ile 0 (Int.tmod i 8)) && (ile (Int.tmod i
    8) (Int.ofNat (List.length (@rd (Ty.sl (Ty.pair (Ty.int .u8) (Ty.pair (Ty.int .i64) (Ty.int .u32)))) L (0 + (Int.toNat i))))))) (br (ok ⟨1, t, rm, r, 100, 1000, 50,
    []⟩ (List.take (Int.toNat (Int.tmod i 8)) (@rd (Ty.sl (Ty.pair (Ty.int .u8) (Ty.pair (Ty.int .i64) (Ty.int .u32)))) L (0 + (Int.toNat i))))) (br (inb i (List.length
    L)) (br ((ile 0 (Int.tmod i 8)) && (ile (Int.tmod i 8) (Int.ofNat (List.length (@rd (Ty.sl (Ty.pair (Ty.int .u8) (Ty.pair (Ty.int .i64) (Ty.int .u32)))) L (0 +
    (Int.toNat i))))))) (br (ok ⟨1, t, rm, r, 100, 1000, 50, []⟩ (List.take (Int.toNat (Int.tmod i 8)) (@rd (Ty.sl (Ty.pair (Ty.int .u8) (Ty.pair (Ty.int .i64) (Ty.int
    .u32)))) L (0 + (Int.toNat i))))) (br (inb i (List.length L)) (br (ok ⟨1, t, rm, r, 100, 9223372036854775807, 9223372036854775807, (subOf ws none)⟩ (@rd (Ty.sl
    (Ty.pair (Ty.int .u8) (Ty.pair (Ty.int .i64) (Ty.int .u32)))) L (0 + (Int.toNat i)))) (br (inb i (List.length L)) (br (ok ⟨1, t, rm, r, 100, 9223372036854775807,
    9223372036854775807, (subOf ws none)⟩ (@rd (Ty.sl (Ty.pair (Ty.int .u8) (Ty.pair (Ty.int .i64) (Ty.int .u32)))) L (0 + (Int.toNat i)))) (br (ieq (Int.tmod i 7) 0) (br
    (inb i (List.length L)) (br ((ile 0 (Int.tmod i 8)) && (ile (Int.tmod i 8) (Int.ofNat (List.length (@rd (Ty.sl (Ty.pair (Ty.int .u8) (Ty.pair (Ty.int .i64) (Ty.int
    .u32)))) L (0 + (Int.toNat i))))))) (br (ok ⟨1, t, rm, r, 100, 9223372036854775807, 9223372036854775807, (subOf ws none)⟩ (List.take (Int.toNat (Int.tmod i 8)) (@rd
    (Ty.sl (Ty.pair (Ty.int .u8) (Ty.pair (Ty.int .i64) (Ty.int .u32)))) L (0 + (Int.toNat i))))) (br (inb i (List.length L)) (br ((ile 0 (Int.tmod i 8)) && (ile (Int.tmod
    i 8) (Int.ofNat (List.length (@rd (Ty.sl (Ty.pair (Ty.int .u8) (Ty.pair (Ty.int .i64) (Ty.int .u32)))) L (0 + (Int.toNat i))))))) (br (ok ⟨1, t, rm, r, 100,
    9223372036854775807, 9223372036854775807, (subOf ws none)⟩ (List.take (Int.toNat (Int.tmod i 8)) (@rd (Ty.sl (Ty.pair (Ty.int .u8) (Ty.pair (Ty.int .i64) (Ty.int
    .u32)))) L (0 + (Int.toNat i))))) (br (inb i (List.length L)) (br (ok ⟨k, 0, false, 0, 0, 0, 0, []⟩ (@rd (Ty.sl (Ty.pair (Ty.int .u8) (Ty.pair (Ty.int .i64) (Ty.int
    .u32)))) L (0 + (Int.toNat i)))) (br (inb i (List.length L)) (br (ok ⟨k, 0, false, 0, 0, 0, 0, []⟩ (@rd (Ty.sl (Ty.pair (Ty.int .u8) (Ty.pair (Ty.int .i64) (Ty.int
    .u32)))) L (0 + (Int.toNat i)))) (br (ieq (Int.tmod i 7) 0) (br (inb i (List.length L)) (br ((ile 0 (Int.tmod i 8)) && (ile (Int.tmod i 8) (Int.ofNat (List.length (@rd
    (Ty.sl (Ty.pair (Ty.int .u8) (Ty.pair (Ty.int .i64) (Ty.int .u32)))) L (0 + (Int.toNat i))))))) (br (ok ⟨k, 0, false, 0, 0, 0, 0, []⟩ (List.take (Int.toNat (Int.tmod i
    8)) (@rd (Ty.sl (Ty.pair (Ty.int .u8) (Ty.pair (Ty.int .i64) (Ty.int .u32)))) L (0 + (Int.toNat i))))) (br (inb i (List.length L)) (br ((ile 0 (Int.tmod i 8)) && (ile
    (Int.tmod i 8) (Int.ofNat (List.length (@rd (Ty.sl (Ty.pair (Ty.int .u8) (Ty.pair (Ty.int .i64) (Ty.int .u32)))) L (0 + (Int.toNat i))))))) (br (ok ⟨k, 0, false, 0, 0,
    0, 0, []⟩ (List.take (Int.toNat (Int.tmod i 8)) (@rd (Ty.sl (Ty.pair (Ty.int .u8) (Ty.pair (Ty.int .i64) (Ty.int .u32)))) L (0 + (Int.toNat i))))) (KN false (wrapK
    .i64 (i + 1))) none) none) none) none) none) none) (KN false (wrapK .i64 (i + 1)))) none) none) none) none) none) none) none) none) none) none) (br (inb i (List.length
    L)) (br (ok ⟨k, 0, false, 0, 0, 0, 0, []⟩ (@rd (Ty.sl (Ty.pair (Ty.int .u8) (Ty.pair (Ty.int .i64) (Ty.int .u32)))) L (0 + (Int.toNat i)))) (br (inb i (List.length L))
    (br (ok ⟨k, 0, false, 0, 0, 0, 0, []⟩ (@rd (Ty.sl (Ty.pair (Ty.int .u8) (Ty.pair (Ty.int .i64) (Ty.int .u32)))) L (0 + (Int.toNat i)))) (br (ieq (Int.tmod i 7) 0) (br
    (inb i (List.length L)) (br ((ile 0 (Int.tmod i 8)) && (ile (Int.tmod i 8) (Int.ofNat (List.length (@rd (Ty.sl (Ty.pair (Ty.int .u8) (Ty.pair (Ty.int .i64) (Ty.int
    .u32)))) L (0 + (Int.toNat i))))))) (br (ok ⟨k, 0, false, 0, 0, 0, 0, []⟩ (List.take (Int.toNat (Int.tmod i 8)) (@rd (Ty.sl (Ty.pair (Ty.int .u8) (Ty.pair (Ty.int
    .i64) (Ty.int .u32)))) L (0 + (Int.toNat i))))) (br (inb i (List.length L)) (br ((ile 0 (Int.tmod i 8)) && (ile (Int.tmod i 8) (Int.ofNat (List.length (@rd (Ty.sl
    (Ty.pair (Ty.int .u8) (Ty.pair (Ty.int .i64) (Ty.int .u32)))) L (0 + (Int.toNat i))))))) (br (ok ⟨k, 0, false, 0, 0, 0, 0, []⟩ (List.take (Int.toNat (Int.tmod i 8))
    (@rd (Ty.sl (Ty.pair (Ty.int .u8) (Ty.pair (Ty.int .i64) (Ty.int .u32)))) L (0 + (Int.toNat i))))) (KN false (wrapK .i64 (i + 1))) none) none) none) none) none) none)
    (KN false (wrapK .i64 (i + 1)))) none) none) none) none)) none) none) none) none) none) none) none) none) none) none) (br (inb i (List.length L)) (br (ok ⟨1, t, rm, r,
    100, 9223372036854775807, 9223372036854775807, (subOf ws none)⟩ (@rd (Ty.sl (Ty.pair (Ty.int .u8) (Ty.pair (Ty.int .i64) (Ty.int .u32)))) L (0 + (Int.toNat i)))) (br
    (inb i (List.length L)) (br (ok ⟨1, t, rm, r, 100, 9223372036854775807, 9223372036854775807, (subOf ws none)⟩ (@rd (Ty.sl (Ty.pair (Ty.int .u8) (Ty.pair (Ty.int .i64)
    (Ty.int .u32)))) L (0 + (Int.toNat i)))) (br (ieq (Int.tmod i 7) 0) (br (inb i (List.length L)) (br ((ile 0 (Int.tmod i 8)) && (ile (Int.tmod i 8) (Int.ofNat
    (List.length (@rd (Ty.sl (Ty.pair (Ty.int .u8) (Ty.pair (Ty.int .i64) (Ty.int .u32)))) L (0 + (Int.toNat i))))))) (br (ok ⟨1, t, rm, r, 100, 9223372036854775807,
    9223372036854775807, (subOf ws none)⟩ (List.take (Int.toNat (Int.tmod i 8)) (@rd (Ty.sl (Ty.pair (Ty.int .u8) (Ty.pair (Ty.int .i64) (Ty.int .u32)))) L (0 + (Int.toNat
    i))))) (br (inb i (List.length L)) (br ((ile 0 (Int.tmod i 8)) && (ile (Int.tmod i 8) (Int.ofNat (List.length (@rd (Ty.sl (Ty.pair (Ty.int .u8) (Ty.pair (Ty.int .i64)
    (Ty.int .u32)))) L (0 + (Int.toNat i))))))) (br (ok ⟨1, t, rm, r, 100, 9223372036854775807, 9223372036854775807, (subOf ws none)⟩ (List.take (Int.toNat (Int.tmod i 8))
    (@rd (Ty.sl (Ty.pair (Ty.int .u8) (Ty.pair (Ty.int .i64) (Ty.int .u32)))) L (0 + (Int.toNat i))))) (br (inb i (List.length L)) (br (ok ⟨k, 0, false, 0, 0, 0, 0, []⟩
    (@rd (Ty.sl (Ty.pair (Ty.int .u8) (Ty.pair (Ty.int .i64) (Ty.int .u32)))) L (0 + (Int.toNat i)))) (br (inb i (List.length L)) (br (ok ⟨k, 0, false, 0, 0, 0, 0, []⟩
    (@rd (Ty.sl (Ty.pair (Ty.int .u8) (Ty.pair (Ty.int .i64) (Ty.int .u32)))) L (0 + (Int.toNat i)))) (br (ieq (Int.tmod i 7) 0) (br (inb i (List.length L)) (br ((ile 0
    (Int.tmod i 8)) && (ile (Int.tmod i 8) (Int.ofNat (List.length (@rd (Ty.sl (Ty.pair (Ty.int .u8) (Ty.pair (Ty.int .i64) (Ty.int .u32)))) L (0 + (Int.toNat i))))))) (br
    (ok ⟨k, 0, false, 0, 0, 0, 0, []⟩ (List.take (Int.toNat (Int.tmod i 8)) (@rd (Ty.sl (Ty.pair (Ty.int .u8) (Ty.pair (Ty.int .i64) (Ty.int .u32)))) L (0 + (Int.toNat
    i))))) (br (inb i (List.length L)) (br ((ile 0 (Int.tmod i 8)) && (ile (Int.tmod i 8) (Int.ofNat (List.length (@rd (Ty.sl (Ty.pair (Ty.int .u8) (Ty.pair (Ty.int .i64)
    (Ty.int .u32)))) L (0 + (Int.toNat i))))))) (br (ok ⟨k, 0, false, 0, 0, 0, 0, []⟩ (List.take (Int.toNat (Int.tmod i 8)) (@rd (Ty.sl (Ty.pair (Ty.int .u8) (Ty.pair
    (Ty.int .i64) (Ty.int .u32)))) L (0 + (Int.toNat i))))) (KN false (wrapK .i64 (i + 1))) none) none) none) none) none) none) (KN false (wrapK .i64 (i + 1)))) none)
    none) none) none) none) none) none) none) none) none) (br (inb i (List.length L)) (br (ok ⟨k, 0, false, 0, 0, 0, 0, []⟩ (@rd (Ty.sl (Ty.pair (Ty.int .u8) (Ty.pair
    (Ty.int .i64) (Ty.int .u32)))) L (0 + (Int.toNat i)))) (br (inb i (List.length L)) (br (ok ⟨k, 0, false, 0, 0, 0, 0, []⟩ (@rd (Ty.sl (Ty.pair (Ty.int .u8) (Ty.pair
    (Ty.int .i64) (Ty.int .u32)))) L (0 + (Int.toNat i)))) (br (ieq (Int.tmod i 7) 0) (br (inb i (List.length L)) (br ((ile 0 (Int.tmod i 8)) && (ile (Int.tmod i 8)
    (Int.ofNat (List.length (@rd (Ty.sl (Ty.pair (Ty.int .u8) (Ty.pair (Ty.int .i64) (Ty.int .u32)))) L (0 + (Int.toNat i))))))) (br (ok ⟨k, 0, false, 0, 0, 0, 0, []⟩
    (List.take (Int.toNat (Int.tmod i 8)) (@rd (Ty.sl (Ty.pair (Ty.int .u8) (Ty.pair (Ty.int .i64) (Ty.int .u32)))) L (0 + (Int.toNat i))))) (br (inb i (List.length L))
    (br ((ile 0 (Int.tmod i 8)) && (ile (Int.tmod i 8) (Int.ofNat (List.length (@rd (Ty.sl (Ty.pair (Ty.int .u8) (Ty.pair (Ty.int .i64) (Ty.int .u32)))) L (0 + (Int.toNat
    i))))))) (br (ok ⟨k, 0, false, 0, 0, 0, 0, []⟩ (List.take (Int.toNat (Int.tmod i 8)) (@rd (Ty.sl (Ty.pair (Ty.int .u8) (Ty.pair (Ty.int .i64) (Ty.int .u32)))) L (0 +
    (Int.toNat i))))) (KN false (wrapK .i64 (i + 1))) none) none) none) none) none) none) (KN false (wrapK .i64 (i + 1)))) none) none) none) none)) none) none) none)
    none)) none) none) none) none) none) none) none) none) none) none) (br (inb i (List.length L)) (br (ok ⟨1, t, rm, r, 100, 1000, 50, []⟩ (@rd (Ty.sl (Ty.pair (Ty.int
    .u8) (Ty.pair (Ty.int .i64) (Ty.int .u32)))) L (0 + (Int.toNat i)))) (br (inb i (List.length L)) (br (ok ⟨1, t, rm, r, 100, 1000, 50, []⟩ (@rd (Ty.sl (Ty.pair (Ty.int
    .u8) (Ty.pair (Ty.int .i64) (Ty.int .u32)))) L (0 + (Int.toNat i)))) (br (ieq (Int.tmod i 7) 0) (br (inb i (List.length L)) (br ((ile 0 (Int.tmod i 8)) && (ile
    (Int.tmod i 8) (Int.ofNat (List.length (@rd (Ty.sl (Ty.pair (Ty.int .u8) (Ty.pair (Ty.int .i64) (Ty.int .u32)))) L (0 + (Int.toNat i))))))) (br (ok ⟨1, t, rm, r, 100,
    1000, 50, []⟩ (List.take (Int.toNat (Int.tmod i 8)) (@rd (Ty.sl (Ty.pair (Ty.int .u8) (Ty.pair (Ty.int .i64) (Ty.int .u32)))) L (0 + (Int.toNat i))))) (br (inb i
    (List.length L)) (br ((ile 0 (Int.tmod i 8)) && (ile (Int.tmod i 8) (Int.ofNat (List.length (@rd (Ty.sl (Ty.pair (Ty.int .u8) (Ty.pair (Ty.int .i64) (Ty.int .u32)))) L
    (0 + (Int.toNat i))))))) (br (ok ⟨1, t, rm, r, 100, 1000, 50, []⟩ (List.take (Int.toNat (Int.tmod i 8)) (@rd (Ty.sl (Ty.pair (Ty.int .u8) (Ty.pair (Ty.int .i64)
    (Ty.int .u32)))) L (0 + (Int.toNat i))))) (br (inb i (List.length L)) (br (ok ⟨1, t, rm, r, 100, 9223372036854775807, 9223372036854775807, (subOf ws none)⟩ (@rd (Ty.sl
    (Ty.pair (Ty.int .u8) (Ty.pair (Ty.int .i64) (Ty.int .u32)))) L (0 + (Int.toNat i)))) (br (inb i (List.length L)) (br (ok ⟨1, t, rm, r, 100, 9223372036854775807,
    9223372036854775807, (subOf ws none)⟩ (@rd (Ty.sl (Ty.pair (Ty.int .u8) (Ty.pair (Ty.int .i64) (Ty.int .u32)))) L (0 + (Int.toNat i)))) (br (ieq (Int.tmod i 7) 0) (br
    (inb i (List.length L)) (br ((ile 0 (Int.tmod i 8)) && (ile (Int.tmod i 8) (Int.ofNat (List.length (@rd (Ty.sl (Ty.pair (Ty.int .u8) (Ty.pair (Ty.int .i64) (Ty.int
    .u32)))) L (0 + (Int.toNat i))))))) (br (ok ⟨1, t, rm, r, 100, 9223372036854775807, 9223372036854775807, (subOf ws none)⟩ (List.take (Int.toNat (Int.tmod i 8)) (@rd
    (Ty.sl (Ty.pair (Ty.int .u8) (Ty.pair (Ty.int .i64) (Ty.int .u32)))) L (0 + (Int.toNat i))))) (br (inb i (List.length L)) (br ((ile 0 (Int.tmod i 8)) && (ile (Int.tmod
    i 8) (Int.ofNat (List.length (@rd (Ty.sl (Ty.pair (Ty.int .u8) (Ty.pair (Ty.int .i64) (Ty.int .u32)))) L (0 + (Int.toNat i))))))) (br (ok ⟨1, t, rm, r, 100,
    9223372036854775807, 9223372036854775807, (subOf ws none)⟩ (List.take (Int.toNat (Int.tmod i 8)) (@rd (Ty.sl (Ty.pair (Ty.int .u8) (Ty.pair (Ty.int .i64) (Ty.int
    .u32)))) L (0 + (Int.toNat i))))) (br (inb i (List.length L)) (br (ok ⟨k, 0, false, 0, 0, 0, 0, []⟩ (@rd (Ty.sl (Ty.pair (Ty.int .u8) (Ty.pair (Ty.int .i64) (Ty.int
    .u32)))) L (0 + (Int.toNat i)))) (br (inb i (List.length L)) (br (ok ⟨k, 0, false, 0, 0, 0, 0, []⟩ (@rd (Ty.sl (Ty.pair (Ty.int .u8) (Ty.pair (Ty.int .i64) (Ty.int
    .u32)))) L (0 + (Int.toNat i)))) (br (ieq (Int.tmod i 7) 0) (br (inb i (List.length L)) (br ((ile 0 (Int.tmod i 8)) && (ile (Int.tmod i 8) (Int.ofNat (List.length (@rd
    (Ty.sl (Ty.pair (Ty.int .u8) (Ty.pair (Ty.int .i64) (Ty.int .u32)))) L (0 + (Int.toNat i))))))) (br (ok ⟨k, 0, false, 0, 0, 0, 0, []⟩ (List.take (Int.toNat (Int.tmod i
    8)) (@rd (Ty.sl (Ty.pair (Ty.int .u8) (Ty.pair (Ty.int .i64) (Ty.int .u32)))) L (0 + (Int.toNat i))))) (br (inb i (List.length L)) (br ((ile 0 (Int.tmod i 8)) && (ile
    (Int.tmod i 8) (Int.ofNat (List.length (@rd (Ty.sl (Ty.pair (Ty.int .u8) (Ty.pair (Ty.int .i64) (Ty.int .u32)))) L (0 + (Int.toNat i))))))) (br (ok ⟨k, 0, false, 0, 0,
    0, 0, []⟩ (List.take (Int.toNat (Int.tmod i 8)) (@rd (Ty.sl (Ty.pair (Ty.int .u8) (Ty.pair (Ty.int .i64) (Ty.int .u32)))) L (0 + (Int.toNat i))))) (KN false (wrapK
    .i64 (i + 1))) none) none) none) none) none) none) (KN false (wrapK .i64 (i + 1)))) none) none) none) none) none) none) none) none) none) none) (br (inb i (List.length
    L)) (br (ok ⟨k, 0, false, 0, 0, 0, 0, []⟩ (@rd (Ty.sl (Ty.pair (Ty.int .u8) (Ty.pair (Ty.int .i64) (Ty.int .u32)))) L (0 + (Int.toNat i)))) (br (inb i (List.length L))
    (br (ok ⟨k, 0, false, 0, 0, 0, 0, []⟩ (@rd (Ty.sl (Ty.pair (Ty.int .u8) (Ty.pair (Ty.int .i64) (Ty.int .u32)))) L (0 + (Int.toNat i)))) (br (ieq (Int.tmod i 7) 0) (br
    (inb i (List.length L)) (br ((ile 0 (Int.tmod i 8)) && (ile (Int.tmod i 8) (Int.ofNat (List.length (@rd (Ty.sl (Ty.pair (Ty.int .u8) (Ty.pair (Ty.int .i64) (Ty.int
    .u32)))) L (0 + (Int.toNat i))))))) (br (ok ⟨k, 0, false, 0, 0, 0, 0, []⟩ (List.take (Int.toNat (Int.tmod i 8)) (@rd (Ty.sl (Ty.pair (Ty.int .u8) (Ty.pair (Ty.int
    .i64) (Ty.int .u32)))) L (0 + (Int.toNat i))))) (br (inb i (List.length L)) (br ((ile 0 (Int.tmod i 8)) && (ile (Int.tmod i 8) (Int.ofNat (List.length (@rd (Ty.sl
    (Ty.pair (Ty.int .u8) (Ty.pair (Ty.int .i64) (Ty.int .u32)))) L (0 + (Int.toNat i))))))) (br (ok ⟨k, 0, false, 0, 0, 0, 0, []⟩ (List.take (Int.toNat (Int.tmod i 8))
    (@rd (Ty.sl (Ty.pair (Ty.int .u8) (Ty.pair (Ty.int .i64) (Ty.int .u32)))) L (0 + (Int.toNat i))))) (KN false (wrapK .i64 (i + 1))) none) none) none) none) none) none)
    (KN false (wrapK .i64 (i + 1)))) none) none) none) none)) none) none) none) none) none) none) none) none) none) none) (br (inb i (List.length L)) (br (ok ⟨1, t, rm, r,
    100, 9223372036854775807, 9223372036854775807, (subOf ws none)⟩ (@rd (Ty.sl (Ty.pair (Ty.int .u8) (Ty.pair (Ty.int .i64) (Ty.int .u32)))) L (0 + (Int.toNat i)))) (br
    (inb i (List.length L)) (br (ok ⟨1, t, rm, r, 100, 9223372036854775807, 9223372036854775807, (subOf ws none)⟩ (@rd (Ty.sl (Ty.pair (Ty.int .u8) (Ty.pair (Ty.int .i64)
    (Ty.int .u32)))) L (0 + (Int.toNat i)))) (br (ieq (Int.tmod i 7) 0) (br (inb i (List.length L)) (br ((ile 0 (Int.tmod i 8)) && (ile (Int.tmod i 8) (Int.ofNat
    (List.length (@rd (Ty.sl (Ty.pair (Ty.int .u8) (Ty.pair (Ty.int .i64) (Ty.int .u32)))) L (0 + (Int.toNat i))))))) (br (ok ⟨1, t, rm, r, 100, 9223372036854775807,
    9223372036854775807, (subOf ws none)⟩ (List.take (Int.toNat (Int.tmod i 8)) (@rd (Ty.sl (Ty.pair (Ty.int .u8) (Ty.pair (Ty.int .i64) (Ty.int .u32)))) L (0 + (Int.toNat
    i))))) (br (inb i (List.length L)) (br ((ile 0 (Int.tmod i 8)) && (ile (Int.tmod i 8) (Int.ofNat (List.length (@rd (Ty.sl (Ty.pair (Ty.int .u8) (Ty.pair (Ty.int .i64)
    (Ty.int .u32)))) L (0 + (Int.toNat i))))))) (br (ok ⟨1, t, rm, r, 100, 9223372036854775807, 9223372036854775807, (subOf ws none)⟩ (List.take (Int.toNat (Int.tmod i 8))
    (@rd (Ty.sl (Ty.pair (Ty.int .u8) (Ty.pair (Ty.int .i64) (Ty.int .u32)))) L (0 + (Int.toNat i))))) (br (inb i (List.length L)) (br (ok ⟨k, 0, false, 0, 0, 0, 0, []⟩
    (@rd (Ty.sl (Ty.pair (Ty.int .u8) (Ty.pair (Ty.int .i64) (Ty.int .u32)))) L (0 + (Int.toNat i)))) (br (inb i (List.length L)) (br (ok ⟨k, 0, false, 0, 0, 0, 0, []⟩
    (@rd (Ty.sl (Ty.pair (Ty.int .u8) (Ty.pair (Ty.int .i64) (Ty.int .u32)))) L (0 + (Int.toNat i)))) (br (ieq (Int.tmod i 7) 0) (br (inb i (List.length L)) (br ((ile 0
    (Int.tmod i 8)) && (ile (Int.tmod i 8) (Int.ofNat (List.length (@rd (Ty.sl (Ty.pair (Ty.int .u8) (Ty.pair (Ty.int .i64) (Ty.int .u32)))) L (0 + (Int.toNat i))))))) (br
    (ok ⟨k, 0, false, 0, 0, 0, 0, []⟩ (List.take (Int.toNat (Int.tmod i 8)) (@rd (Ty.sl (Ty.pair (Ty.int .u8) (Ty.pair (Ty.int .i64) (Ty.int .u32)))) L (0 + (Int.toNat
    i))))) (br (inb i (List.length L)) (br ((ile 0 (Int.tmod i 8)) && (ile (Int.tmod i 8) (Int.ofNat (List.length (@rd (Ty.sl (Ty.pair (Ty.int .u8) (Ty.pair (Ty.int .i64)
    (Ty.int .u32)))) L (0 + (Int.toNat i))))))) (br (ok ⟨k, 0, false, 0, 0, 0, 0, []⟩ (List.take (Int.toNat (Int.tmod i 8)) (@rd (Ty.sl (Ty.pair (Ty.int .u8) (Ty.pair
    (Ty.int .i64) (Ty.int .u32)))) L (0 + (Int.toNat i))))) (KN false (wrapK .i64 (i + 1))) none) none) none) none) none) none) (KN false (wrapK .i64 (i + 1)))) none)
    none) none) none) none) none) none) none) none) none) (br (inb i (List.length L)) (br (ok ⟨k, 0, false, 0, 0, 0, 0, []⟩ (@rd (Ty.sl (Ty.pair (Ty.int .u8) (Ty.pair
    (Ty.int .i64) (Ty.int .u32)))) L (0 + (Int.toNat i)))) (br (inb i (List.length L)) (br (ok ⟨k, 0, false, 0, 0, 0, 0, []⟩ (@rd (Ty.sl (Ty.pair (Ty.int .u8) (Ty.pair
    (Ty.int .i64) (Ty.int .u32)))) L (0 + (Int.toNat i)))) (br (ieq (Int.tmod i 7) 0) (br (inb i (List.length L)) (br ((ile 0 (Int.tmod i 8)) && (ile (Int.tmod i 8)
    (Int.ofNat (List.length (@rd (Ty.sl (Ty.pair (Ty.int .u8) (Ty.pair (Ty.int .i64) (Ty.int .u32)))) L (0 + (Int.toNat i))))))) (br (ok ⟨k, 0, false, 0, 0, 0, 0, []⟩
    (List.take (Int.toNat (Int.tmod i 8)) (@rd (Ty.sl (Ty.pair (Ty.int .u8) (Ty.pair (Ty.int .i64) (Ty.int .u32)))) L (0 + (Int.toNat i))))) (br (inb i (List.length L))
    (br ((ile 0 (Int.tmod i 8)) && (ile (Int.tmod i 8) (Int.ofNat (List.length (@rd (Ty.sl (Ty.pair (Ty.int .u8) (Ty.pair (Ty.int .i64) (Ty.int .u32)))) L (0 + (Int.toNat
    i))))))) (br (ok ⟨k, 0, false, 0, 0, 0, 0, []⟩ (List.take (Int.toNat (Int.tmod i 8)) (@rd (Ty.sl (Ty.pair (Ty.int .u8) (Ty.pair (Ty.int .i64) (Ty.int .u32)))) L (0 +
    (Int.toNat i))))) (KN false (wrapK .i64 (i + 1))) none) none) none) none) none) none) (KN false (wrapK .i64 (i + 1)))) none) none) none) none)) none) none) none)
    none)) none) none) none) none)) none) none) none) none) (KX u i))
theorem t27_run {R : Type} (ok : Fc → List CallT.den → Bool) (ws : List Str) (L : List (List CallT.den)) (t : Int) (rm : Bool) (r k : Int) (u : Bool) (i : Int) (KN : Fr → Heap → Option R) (K : X → Fr → Heap → Option R) :
    roundL E2 (tabL (fns3 ok) []) 7 8 3 27 nm27 169 KN K (fr27 t r i) (hp27 ws u L t rm r k) =
      t27 ok ws L t rm r k u i (fun u i => KN (fr27 t r i) (hp27 ws u L t rm r k)) (fun u i => K (.exit 10) (fr27 t r i) (hp27 ws u L t rm r k)) (fun u i => K .ret (fr27 t r i) (hp27 ws u L t rm r k)) := by kernel_rfl

/-- What the calls' rows must be. -/
def okL (l : List CallT.den) : Bool := Nat.ble 7 l.length && l.all fun c => ile 0 c.1 && (ile c.1 255 && (ile 0 c.2.2 && ile c.2.2 4294967295))
def ok8 (n : Int) : Bool := ile 0 n && ile n 255
theorem okL_chk {l : List CallT.den} (h : okL l = true) : 7 ≤ l.length ∧ chkL l = true := by
  simp only [okL, Bool.and_eq_true] at h
  refine ⟨Nat.le_of_ble_eq_true h.1, ?_⟩
  unfold chkL
  refine List.all_eq_true.2 fun c hc => ?_
  have := List.all_eq_true.1 h.2 c hc
  simp only [ile_eq, Bool.and_eq_true, decide_eq_true_eq] at this
  simp only [inB, Bool.and_eq_true, decide_eq_true_eq]
  exact ⟨⟨this.1, this.2.1⟩, this.2.2.1, this.2.2.2⟩
theorem chk_take {l : List CallT.den} (h : chkL l = true) (n : Nat) : chkL (l.take n) = true :=
  List.all_eq_true.2 fun c hc => List.all_eq_true.1 h c (List.mem_of_mem_take hc)
theorem ok8_in {n : Int} (h : ok8 n = true) : inB 0 255 n = true := by
  simp only [ok8, ile_eq, Bool.and_eq_true, decide_eq_true_eq] at h
  simp only [inB, decide_eq_true_eq]
  exact h

theorem round27 {R : Type} {ws : List Str} {L : List (List CallT.den)} {t : Int} {rm : Bool} {r k : Int} {u : Bool} {i : Int} (KN KX KR : Bool → Int → Option R)
    (ht : ok8 t = true) (hr : ok8 r = true) (hk : ok8 k = true) (hL : L.all okL = true) (h0 : 0 ≤ i) (hi : i < L.length) :
    t27 okFL ws L t rm r k u i KN KX KR = KN false (wrapK .i64 (i + 1)) := by
  have e1 : ilt i (L.length : Int) = true := by rw [ilt_eq]; exact decide_eq_true hi
  have e2 : inb i L.length = true := by simp only [inb, ile_eq, ilt_eq, decide_eq_true h0, decide_eq_true hi, Bool.and_self]
  obtain ⟨c, hc, h7, hcl⟩ : ∃ c : List CallT.den, rd (t := .sl CallT) L i.toNat = c ∧ 7 ≤ c.length ∧ chkL c = true := by
    have hlt : i.toNat < L.length := by omega
    have e : rd (t := .sl CallT) L i.toNat = L[i.toNat] := by
      unfold rd
      rw [List.getD_eq_getElem?_getD, List.getElem?_eq_getElem hlt]; rfl
    obtain ⟨a, b⟩ := okL_chk (List.all_eq_true.1 hL L[i.toNat] (List.getElem_mem hlt))
    exact ⟨_, e, a, b⟩
  have hm : 0 ≤ Int.tmod i 8 ∧ Int.tmod i 8 ≤ 7 := by rw [Int.tmod_eq_emod_of_nonneg h0]; omega
  have e3 : (ile 0 (Int.tmod i 8) && ile (Int.tmod i 8) (c.length : Int)) = true := by
    simp only [ile_eq, Bool.and_eq_true, decide_eq_true_eq]; omega
  have big : ∀ a, inB (-9223372036854775808) 9223372036854775807 a = decide (-9223372036854775808 ≤ a ∧ a ≤ 9223372036854775807) := fun _ => rfl
  have o1 : ∀ up dn ex d, (up = 1000 ∧ dn = 50 ∨ up = 9223372036854775807 ∧ dn = 9223372036854775807) → chkL d = true → okFL ⟨1, t, rm, r, 100, up, dn, ex⟩ d = true := fun up dn ex d hh hd => by
    simp only [okFL, chkF, ok8_in ht, ok8_in hr, hd, Bool.and_true]
    rcases hh with ⟨rfl, rfl⟩ | ⟨rfl, rfl⟩ <;> decide
  have o2 : ∀ d, chkL d = true → okFL ⟨k, 0, false, 0, 0, 0, 0, []⟩ d = true := fun d hd => by
    simp only [okFL, chkF, ok8_in hk, hd, Bool.and_true]
    decide
  have p1 := o1 1000 50 ws c (.inl ⟨rfl, rfl⟩) hcl
  have p2 := o1 1000 50 [] c (.inl ⟨rfl, rfl⟩) hcl
  have p3 := o1 9223372036854775807 9223372036854775807 ws c (.inr ⟨rfl, rfl⟩) hcl
  have q := fun n => chk_take hcl n
  have q1 := fun n => o1 1000 50 ws (c.take n) (.inl ⟨rfl, rfl⟩) (q n)
  have q2 := fun n => o1 1000 50 [] (c.take n) (.inl ⟨rfl, rfl⟩) (q n)
  have q3 := fun n => o1 9223372036854775807 9223372036854775807 ws (c.take n) (.inr ⟨rfl, rfl⟩) (q n)
  have p4 := o2 c hcl
  have q4 := fun n => o2 (c.take n) (q n)
  unfold t27
  simp only [show subOf ws none = ws from rfl, Int.ofNat_eq_natCast, Nat.zero_add, e1, e2, hc, e3, p1, p2, p3, p4, q1, q2, q3, q4, br_t]
  cases ieq (Int.tmod i 7) 0 <;> rfl

theorem run27 {R : Type} {ws : List Str} {L : List (List CallT.den)} {t : Int} {rm : Bool} {r k : Int} (K : X → Fr → Heap → Option R)
    (ht : ok8 t = true) (hr : ok8 r = true) (hk : ok8 k = true) (hL : L.all okL = true) (hn : L.length ≤ 100) : ∀ (v : Nat) (u : Bool) (i : Int), 0 ≤ i → i < L.length → (L.length : Int) - i < v →
    runL E2 (tabL (fns3 okFL) []) 7 8 3 27 nm27 169 K v (fr27 t r i) (hp27 ws u L t rm r k) = K (.exit 10) (fr27 t r L.length) (hp27 ws false L t rm r k)
  | 0, u, i, h0, hi, hv => by omega
  | v + 1, u, i, h0, hi, hv => by
    rw [runL_succ, t27_run, round27 _ _ _ ht hr hk hL h0 hi]
    have hw : wrapK .i64 (i + 1) = i + 1 := by rw [wrap64]; omega
    rw [hw]
    by_cases h : i + 1 < L.length
    · exact run27 K ht hr hk hL hn v false (i + 1) (by omega) h (by omega)
    · match v, hv with
      | 0, hv => exact absurd hv (by omega)
      | v + 1, hv =>
        rw [runL_succ, t27_run]
        have hi' : i + 1 = L.length := by omega
        have e1 : ilt (L.length : Int) (L.length : Int) = false := ilt_self _
        rw [hi']
        unfold t27
        rw [Int.ofNat_eq_natCast, e1]
        rfl

/-- The rows of calls in a block. -/
def asRows : Blk → Option (List (List CallT.den))
  | .row true t xs 0 => if h : t = .sl CallT then some (castR h xs) else none
  | _ => none
where
  castR {t : Ty} (h : t = .sl CallT) (xs : List t.den) : List (List CallT.den) := by subst h; exact xs
theorem asRows_eq {b : Blk} {L : List (List CallT.den)} (h : asRows b = some L) : b = .row true (.sl CallT) L 0 := by
  unfold asRows at h
  split at h
  · split at h
    · rename_i e
      subst e
      cases h
      rfl
    · cases h
  · cases h
def asWords : Blk → Option (Bool × List Str)
  | .row u t xs 0 => if h : t = .str then some (u, castW h xs) else none
  | _ => none
where
  castW {t : Ty} (h : t = .str) (xs : List t.den) : List Str := by subst h; exact xs
theorem asWords_eq {b : Blk} {p : Bool × List Str} (h : asWords b = some p) : b = .row p.1 .str p.2 0 := by
  unfold asWords at h
  split at h
  · split at h
    · rename_i e
      subst e
      cases h
      rfl
    · cases h
  · cases h
/-- The loop over the calls' rows: it ends, where all numbers are as they are. -/
def l27 : LoopC := fun R tm H K => bif Nat.beq H.next 169 then (match nm27 169 tm H with
  | some ([(0, .bool false), (1, .hsl 169 0 none), (5, .int .u8 t), (6, .int .u8 r), (7, .ptr 165 0), (8, .ptr 166 0), (9, .ptr 167 0), (10, .ptr 168 0), (11, .int .i64 0)],
      ⟨171, [(169, bL), (170, bW), (168, .cells true c8), (167, .cells true c7), (166, .cells true c6), (165, .cells true c5)]⟩) => match asRows bL, asWords bW, c8, c5 with
    | some L, some w, .int .u8 k :: _, [_, _, _, _, _, _, _, _, _, _, _, _, .bool rm, _, _, _, _, _, _, _, _, _, _, _, _] =>
      bif sameH (hp27 w.2 w.1 L t rm r k) c8 c7 c6 c5 then (bif (ok8 t && (ok8 r && (ok8 k && (Nat.ble 1 L.length && (Nat.ble L.length 100 && L.all okL))))) then K (.exit 10) (fr27 t r L.length) (hp27 w.2 false L t rm r k) else none) else none
    | _, _, _, _ => none
  | _ => none) else none
where
  sameH (H : Heap) (c8 c7 c6 c5 : List A) : Bool := match H.bs with
    | [_, _, (_, .cells true d8), (_, .cells true d7), (_, .cells true d6), (_, .cells true d5)] => A.sameL c8 d8 && (A.sameL c7 d7 && (A.sameL c6 d6 && A.sameL c5 d5))
    | _ => false
theorem l27_ok : LpOk Try.prog 3 27 l27 := by
  refine lp_ok (T := tabL (fns3 okFL) []) (u := 7) (d := 8) (nm := nm27) E2_ok (tabL_ok fns3_ok (fun _ h => by cases h)) (normG_ok ..) (by kernel_rfl) (by kernel_rfl) fun R tm H K r h => ?_
  unfold l27 at h
  cases hb : Nat.beq H.next 169 with
  | false => rw [hb] at h; cases h
  | true =>
    rw [hb] at h
    rw [Nat.eq_of_beq_eq_true hb]
    simp only [cond_true] at h
    split at h
    case h_2 => cases h
    rename_i t r bL bW c8 c7 c6 c5 hn
    split at h
    case h_2 => cases h
    rename_i L w k c8t a0 a1 a2 a3 a4 a5 a6 a7 a8 a9 a10 a11 rm b13 b14 b15 b16 b17 b18 b19 b20 b21 b22 b23 b24 e1 e2
    cases hs : l27.sameH (hp27 w.2 w.1 L t rm r k) (.int .u8 k :: c8t) c7 c6 [a0, a1, a2, a3, a4, a5, a6, a7, a8, a9, a10, a11, .bool rm, b13, b14, b15, b16, b17, b18, b19, b20, b21, b22, b23, b24] with
    | false => rw [hs] at h; cases h
    | true =>
      rw [hs] at h
      simp only [cond_true] at h
      cases hc : (ok8 t && (ok8 r && (ok8 k && (Nat.ble 1 L.length && (Nat.ble L.length 100 && L.all okL))))) with
      | false => rw [hc] at h; cases h
      | true =>
        rw [hc] at h
        simp only [cond_true] at h
        simp only [Bool.and_eq_true] at hc
        obtain ⟨h1, h2, h3, h4, h5, h6⟩ := hc
        refine ⟨L.length + 1, _, _, hn, ?_⟩
        have h4 := Nat.le_of_ble_eq_true h4
        have h5 := Nat.le_of_ble_eq_true h5
        simp only [l27.sameH, hp27, Bool.and_eq_true] at hs
        obtain ⟨s8, s7, s6, s5⟩ := hs
        rw [asRows_eq e1, asWords_eq e2, A.sameL_eq s8, A.sameL_eq s7, A.sameL_eq s6, A.sameL_eq s5]
        exact (run27 (ws := w.2) (rm := rm) K h1 h2 h3 h6 h5 (L.length + 1) w.1 0 (by omega) (by omega) (by omega)).trans h

end Go.VI.Svc
