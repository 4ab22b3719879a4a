/-
  SvcPlays' rounds, over contracts of the methods that are left open.
-/
import Derived.Test.YtjocfknaojbemaaSvcM
namespace Go.VI.Svc
open Go.Proofs

structure Fs where
  s : Fi → St → Int → Option (Ou × Bool × St)
  t : Fi → St → Int → Option (Ou × Bool × St)
  x : Fi → St → Int → Int → Option (Ou × St)
  k : Fi → St → Int → Option (Ou × St)
structure Fw where
  s : Fi → St → Int → Option (Ou × Bool × St)
  t : Fi → St → Int → Option (Ou × St)
  x : Fi → St → Int → Int → Option (Ou × St)
  k : Fi → St → Int → Option (Ou × St)

/-- is: a function of both answers. -/
def isTE (F : Ou → Ou → Bool) : TE := fun _ xs H k => match xs with
  | [.agg [.bool a, .bool b, .bool c, .int .u8 r], .agg [.bool a', .bool b', .bool c', .int .i64 r']] => k (.bool (F ⟨a, b, c, r⟩ ⟨a', b', c', r'⟩)) H
  | _ => none
def isF (x y : Ou) : Bool := br (br (br (decide (x.sp = y.sp)) (decide (x.ki = y.ki)) false) (decide (x.ag = y.ag)) false) (ieq (wrapK .i64 x.r) y.r) false
theorem is_eq {R : Type} (a b c a' b' c' : Bool) (r r' : Int) (H : Heap) (k : A → Heap → Option R) :
    pureTE E T0 0 8 46 R [.agg [.bool a, .bool b, .bool c, .int .u8 r], .agg [.bool a', .bool b', .bool c', .int .i64 r']] H k =
      br (br (br (decide (a = a')) (decide (b = b')) false) (decide (c = c')) false) (k (.bool (ieq (wrapK .i64 r) r')) H) (k (.bool false) H) := by kernel_rfl
theorem is_ok : TEok 46 (isTE isF) := fun R xs C k r hR h => by
  unfold isTE at h
  split at h
  case h_2 => cases h
  refine pureTE_ok E_ok T0_ok R _ C k r hR (u := 0) (d := 8) ?_
  rw [is_eq, ← h]
  exact (app_br (fun z => k (A.bool z) C.H) _ _ _).symm

def fnsT (iF : Ou → Ou → Bool) (p : Fs) (w : Fw) : List (Nat × TE) := [(21, worksTE), (46, isTE iF), (13, startCTE p.s), (14, stopCTE p.t), (15, exitCTE p.x), (16, tickCTE p.k), (45, startWTE w.s), (47, stopWTE w.t), (48, exitWTE w.x), (49, tickWTE w.k)]
def pF : Fs := ⟨startCF, stopCF, exitCF, tickCF⟩
def wF : Fw := ⟨startWF, stopWF, exitWF, tickWF⟩
theorem fnsT_ok : ∀ q ∈ fnsT isF pF wF, FnOk Try.prog q.1 q.2 := fun q hq => by
  simp only [fnsT, List.mem_cons, List.not_mem_nil, or_false] at hq
  rcases hq with rfl | rfl | rfl | rfl | rfl | rfl | rfl | rfl | rfl | rfl
  · exact works_ok
  · exact is_ok
  · exact startC_ok
  · exact stopC_ok
  · exact exitC_ok
  · exact tickC_ok
  · exact startW_ok
  · exact stopW_ok
  · exact exitW_ok
  · exact tickW_ok

/-- A file's cells, where nothing but the service is told. -/
def f0 (c : Bool) (fk ty : Int) (rm : Bool) (rs ag up dn : Int) (ex : A) : List A :=
  [.int (if c then .u8 else .i64) fk, .nils, .nils, .nils, .nils, .nils, .nils, .nils, .bool false, .int .i64 0, .int .i64 0, .int (if c then .u8 else .i64) ty, .bool rm, .int (if c then .u8 else .i64) rs, .int .i64 ag, .int .i64 up, .int .i64 dn, ex, .nils, .int .i64 0, .int .i64 0, .bool false, .bool false, .bool false, .str []]
abbrev CallT : Ty := .pair (.int .u8) (.pair (.int .i64) (.int .u32))
def nm9 := normG [1, 4, 5, 6, 7, 8] [5, 6] [] []
def fr9 (l : List CallT.den) (res : Bool) (now i : Int) : Fr := [(1, .sl CallT l), (4, .bool res), (5, .ptr 29 0), (6, .ptr 30 0), (7, .int .i64 now), (8, .int .i64 i)]
def hp9 (fk ty : Int) (rm : Bool) (rs ag up dn : Int) (ex : List Str) (fk' ty' : Int) (rm' : Bool) (rs' ag' up' dn' : Int) (x y : St) : Heap :=
  ⟨31, [(29, .cells true (mc (f0 true fk ty rm rs ag up dn (.sl .str ex)) x)), (30, .cells true (mw (f0 false fk' ty' rm' rs' ag' up' dn' (.sl .str ex)) y))]⟩
def st4 (l : List A) : Option St := match l with
  | [.int _ s, .bool b, .int _ d, .bool lt] => some ⟨s, b, d, lt⟩
  | _ => none
/-- What of a round's end is told: the result, now, i, both machines. -/
def to9 {R : Type} (K : Bool → Int → Int → St → St → Option R) (tm : Fr) (H : Heap) : Option R := match tm.get 4, tm.get 7, tm.get 8, H.get 29, H.get 30 with
  | .bool r, .int _ n, .int _ i, some (.cells _ cs), some (.cells _ ds) => match st4 (cs.drop 25), st4 (ds.drop 25) with
    | some x, some y => K r n i x y
    | _, _ => none
  | _, _, _, _, _ => none

def t9 {R : Type} (iF : Ou → Ou → Bool) (p : Fs) (w : Fw) (fk ty : Int) (rm : Bool) (rs ag up dn : Int) (ex : List Str) (fk' ty' : Int) (rm' : Bool) (rs' ag' up' dn' : Int) (l : List CallT.den) (x y : St) (now i : Int) (KN : Int → Int → St → St → Option R) (KX KR : Bool → Int → Int → St → St → Option R) : Option R :=
  (br (ilt i (Int.ofNat (List.length l))) (br (inb i (List.length l)) (br (inb i (List.length l)) (br (ieq (Int.tmod (@rd (Ty.pair (Ty.int .u8) (Ty.pair (Ty.int .i64)
    (Ty.int .u32))) l (Int.toNat i)).1 5) 4) (bnd (p.s ⟨fk, ty, rm, rs, ag, up, dn, (Nat.beq (List.length ex) 0)⟩ x (wrapK .i64 (now + (wrapK .i64 (@rd (Ty.pair (Ty.int
    .u8) (Ty.pair (Ty.int .i64) (Ty.int .u32))) l (Int.toNat i)).2.2)))) (fun a0 => (br (inb i (List.length l)) (bnd (p.x ⟨fk, ty, rm, rs, ag, up, dn, (Nat.beq
    (List.length ex) 0)⟩ a0.2.2 (@rd (Ty.pair (Ty.int .u8) (Ty.pair (Ty.int .i64) (Ty.int .u32))) l (Int.toNat i)).2.1 (wrapK .i64 (now + (wrapK .i64 (@rd (Ty.pair (Ty.int
    .u8) (Ty.pair (Ty.int .i64) (Ty.int .u32))) l (Int.toNat i)).2.2)))) (fun a1 => (bnd (p.t ⟨fk, ty, rm, rs, ag, up, dn, (Nat.beq (List.length ex) 0)⟩ a1.2 (wrapK .i64
    (now + (wrapK .i64 (@rd (Ty.pair (Ty.int .u8) (Ty.pair (Ty.int .i64) (Ty.int .u32))) l (Int.toNat i)).2.2)))) (fun a2 => (br (inb i (List.length l)) (br (ieq (Int.tmod
    (@rd (Ty.pair (Ty.int .u8) (Ty.pair (Ty.int .i64) (Ty.int .u32))) l (Int.toNat i)).1 5) 0) (bnd (p.s ⟨fk, ty, rm, rs, ag, up, dn, (Nat.beq (List.length ex) 0)⟩ x
    (wrapK .i64 (now + (wrapK .i64 (@rd (Ty.pair (Ty.int .u8) (Ty.pair (Ty.int .i64) (Ty.int .u32))) l (Int.toNat i)).2.2)))) (fun a3 => (bnd (w.s ⟨fk', ty', rm', rs',
    ag', up', dn', (Nat.beq (List.length ex) 0)⟩ y (wrapK .i64 (now + (wrapK .i64 (@rd (Ty.pair (Ty.int .u8) (Ty.pair (Ty.int .i64) (Ty.int .u32))) l (Int.toNat
    i)).2.2)))) (fun a4 => (br (! (br (br (iF a3.1 a4.1) (Decidable.decide (Eq a4.2.1 (ieq (br a3.2.1 0 4) 0))) false) (br a4.2.1 true (ieq (br a3.2.1 0 4) 4)) false)) (KR
    false (wrapK .i64 (now + (wrapK .i64 (@rd (Ty.pair (Ty.int .u8) (Ty.pair (Ty.int .i64) (Ty.int .u32))) l (Int.toNat i)).2.2))) i a3.2.2 a4.2.2) (br (ieq a4.2.2.s
    a4.2.2.s) (br (! (ieq (wrapK .i64 a3.2.2.s) a4.2.2.s)) (KR false (wrapK .i64 (now + (wrapK .i64 (@rd (Ty.pair (Ty.int .u8) (Ty.pair (Ty.int .i64) (Ty.int .u32))) l
    (Int.toNat i)).2.2))) i a3.2.2 a4.2.2) (br (ieq a4.2.2.d a4.2.2.d) (br (! (ieq a3.2.2.d a4.2.2.d)) (KR false (wrapK .i64 (now + (wrapK .i64 (@rd (Ty.pair (Ty.int .u8)
    (Ty.pair (Ty.int .i64) (Ty.int .u32))) l (Int.toNat i)).2.2))) i a3.2.2 a4.2.2) (br (eqw a4.2.2.b a4.2.2.b) (br (! (Decidable.decide (Eq a3.2.2.b a4.2.2.b))) (KR false
    (wrapK .i64 (now + (wrapK .i64 (@rd (Ty.pair (Ty.int .u8) (Ty.pair (Ty.int .i64) (Ty.int .u32))) l (Int.toNat i)).2.2))) i a3.2.2 a4.2.2) (KN (wrapK .i64 (now + (wrapK
    .i64 (@rd (Ty.pair (Ty.int .u8) (Ty.pair (Ty.int .i64) (Ty.int .u32))) l (Int.toNat i)).2.2))) (wrapK .i64 (i + 1)) a3.2.2 a4.2.2)) none)) none)) none)))))) (br (ieq
    (Int.tmod (@rd (Ty.pair (Ty.int .u8) (Ty.pair (Ty.int .i64) (Ty.int .u32))) l (Int.toNat i)).1 5) 1) (bnd (p.t ⟨fk, ty, rm, rs, ag, up, dn, (Nat.beq (List.length ex)
    0)⟩ x (wrapK .i64 (now + (wrapK .i64 (@rd (Ty.pair (Ty.int .u8) (Ty.pair (Ty.int .i64) (Ty.int .u32))) l (Int.toNat i)).2.2)))) (fun a5 => (bnd (w.t ⟨fk', ty', rm',
    rs', ag', up', dn', (Nat.beq (List.length ex) 0)⟩ y (wrapK .i64 (now + (wrapK .i64 (@rd (Ty.pair (Ty.int .u8) (Ty.pair (Ty.int .i64) (Ty.int .u32))) l (Int.toNat
    i)).2.2)))) (fun a6 => (br ((eqw a5.1.sp a5.1.sp) && ((eqw a5.1.ki a5.1.ki) && ((eqw a5.1.ag a5.1.ag) && ((ieq a5.1.r a5.1.r) && true)))) (br (iF a5.1 a6.1) (br (!
    (ieq (br a5.2.1 0 4) 0)) (KR false (wrapK .i64 (now + (wrapK .i64 (@rd (Ty.pair (Ty.int .u8) (Ty.pair (Ty.int .i64) (Ty.int .u32))) l (Int.toNat i)).2.2))) i a5.2.2
    a6.2) (br (ieq a6.2.s a6.2.s) (br (! (ieq (wrapK .i64 a5.2.2.s) a6.2.s)) (KR false (wrapK .i64 (now + (wrapK .i64 (@rd (Ty.pair (Ty.int .u8) (Ty.pair (Ty.int .i64)
    (Ty.int .u32))) l (Int.toNat i)).2.2))) i a5.2.2 a6.2) (br (ieq a6.2.d a6.2.d) (br (! (ieq a5.2.2.d a6.2.d)) (KR false (wrapK .i64 (now + (wrapK .i64 (@rd (Ty.pair
    (Ty.int .u8) (Ty.pair (Ty.int .i64) (Ty.int .u32))) l (Int.toNat i)).2.2))) i a5.2.2 a6.2) (br (eqw a6.2.b a6.2.b) (br (! (Decidable.decide (Eq a5.2.2.b a6.2.b))) (KR
    false (wrapK .i64 (now + (wrapK .i64 (@rd (Ty.pair (Ty.int .u8) (Ty.pair (Ty.int .i64) (Ty.int .u32))) l (Int.toNat i)).2.2))) i a5.2.2 a6.2) (KN (wrapK .i64 (now +
    (wrapK .i64 (@rd (Ty.pair (Ty.int .u8) (Ty.pair (Ty.int .i64) (Ty.int .u32))) l (Int.toNat i)).2.2))) (wrapK .i64 (i + 1)) a5.2.2 a6.2)) none)) none)) none)) (KR false
    (wrapK .i64 (now + (wrapK .i64 (@rd (Ty.pair (Ty.int .u8) (Ty.pair (Ty.int .i64) (Ty.int .u32))) l (Int.toNat i)).2.2))) i a5.2.2 a6.2)) none))))) (br (ieq (Int.tmod
    (@rd (Ty.pair (Ty.int .u8) (Ty.pair (Ty.int .i64) (Ty.int .u32))) l (Int.toNat i)).1 5) 2) (bnd (p.x ⟨fk, ty, rm, rs, ag, up, dn, (Nat.beq (List.length ex) 0)⟩ x (@rd
    (Ty.pair (Ty.int .u8) (Ty.pair (Ty.int .i64) (Ty.int .u32))) l (Int.toNat i)).2.1 (wrapK .i64 (now + (wrapK .i64 (@rd (Ty.pair (Ty.int .u8) (Ty.pair (Ty.int .i64)
    (Ty.int .u32))) l (Int.toNat i)).2.2)))) (fun a7 => (br (ieq (@rd (Ty.pair (Ty.int .u8) (Ty.pair (Ty.int .i64) (Ty.int .u32))) l (Int.toNat i)).2.1 (@rd (Ty.pair
    (Ty.int .u8) (Ty.pair (Ty.int .i64) (Ty.int .u32))) l (Int.toNat i)).2.1) (br (ieq (wrapK .i64 (now + (wrapK .i64 (@rd (Ty.pair (Ty.int .u8) (Ty.pair (Ty.int .i64)
    (Ty.int .u32))) l (Int.toNat i)).2.2))) (wrapK .i64 (now + (wrapK .i64 (@rd (Ty.pair (Ty.int .u8) (Ty.pair (Ty.int .i64) (Ty.int .u32))) l (Int.toNat i)).2.2)))) (bnd
    (w.x ⟨fk', ty', rm', rs', ag', up', dn', (Nat.beq (List.length ex) 0)⟩ y (@rd (Ty.pair (Ty.int .u8) (Ty.pair (Ty.int .i64) (Ty.int .u32))) l (Int.toNat i)).2.1 (wrapK
    .i64 (now + (wrapK .i64 (@rd (Ty.pair (Ty.int .u8) (Ty.pair (Ty.int .i64) (Ty.int .u32))) l (Int.toNat i)).2.2)))) (fun a8 => (br (! (iF a7.1 a8.1)) (KR false (wrapK
    .i64 (now + (wrapK .i64 (@rd (Ty.pair (Ty.int .u8) (Ty.pair (Ty.int .i64) (Ty.int .u32))) l (Int.toNat i)).2.2))) i a7.2 a8.2) (br (ieq a8.2.s a8.2.s) (br (! (ieq
    (wrapK .i64 a7.2.s) a8.2.s)) (KR false (wrapK .i64 (now + (wrapK .i64 (@rd (Ty.pair (Ty.int .u8) (Ty.pair (Ty.int .i64) (Ty.int .u32))) l (Int.toNat i)).2.2))) i a7.2
    a8.2) (br (ieq a8.2.d a8.2.d) (br (! (ieq a7.2.d a8.2.d)) (KR false (wrapK .i64 (now + (wrapK .i64 (@rd (Ty.pair (Ty.int .u8) (Ty.pair (Ty.int .i64) (Ty.int .u32))) l
    (Int.toNat i)).2.2))) i a7.2 a8.2) (br (eqw a8.2.b a8.2.b) (br (! (Decidable.decide (Eq a7.2.b a8.2.b))) (KR false (wrapK .i64 (now + (wrapK .i64 (@rd (Ty.pair (Ty.int
    .u8) (Ty.pair (Ty.int .i64) (Ty.int .u32))) l (Int.toNat i)).2.2))) i a7.2 a8.2) (KN (wrapK .i64 (now + (wrapK .i64 (@rd (Ty.pair (Ty.int .u8) (Ty.pair (Ty.int .i64)
    (Ty.int .u32))) l (Int.toNat i)).2.2))) (wrapK .i64 (i + 1)) a7.2 a8.2)) none)) none)) none)))) none) none))) (br (ieq (Int.tmod (@rd (Ty.pair (Ty.int .u8) (Ty.pair
    (Ty.int .i64) (Ty.int .u32))) l (Int.toNat i)).1 5) 3) (bnd (p.k ⟨fk, ty, rm, rs, ag, up, dn, (Nat.beq (List.length ex) 0)⟩ x (wrapK .i64 (now + (wrapK .i64 (@rd
    (Ty.pair (Ty.int .u8) (Ty.pair (Ty.int .i64) (Ty.int .u32))) l (Int.toNat i)).2.2)))) (fun a9 => (bnd (w.k ⟨fk', ty', rm', rs', ag', up', dn', (Nat.beq (List.length
    ex) 0)⟩ y (wrapK .i64 (now + (wrapK .i64 (@rd (Ty.pair (Ty.int .u8) (Ty.pair (Ty.int .i64) (Ty.int .u32))) l (Int.toNat i)).2.2)))) (fun a10 => (br (! (iF a9.1 a10.1))
    (KR false (wrapK .i64 (now + (wrapK .i64 (@rd (Ty.pair (Ty.int .u8) (Ty.pair (Ty.int .i64) (Ty.int .u32))) l (Int.toNat i)).2.2))) i a9.2 a10.2) (br (ieq a10.2.s
    a10.2.s) (br (! (ieq (wrapK .i64 a9.2.s) a10.2.s)) (KR false (wrapK .i64 (now + (wrapK .i64 (@rd (Ty.pair (Ty.int .u8) (Ty.pair (Ty.int .i64) (Ty.int .u32))) l
    (Int.toNat i)).2.2))) i a9.2 a10.2) (br (ieq a10.2.d a10.2.d) (br (! (ieq a9.2.d a10.2.d)) (KR false (wrapK .i64 (now + (wrapK .i64 (@rd (Ty.pair (Ty.int .u8) (Ty.pair
    (Ty.int .i64) (Ty.int .u32))) l (Int.toNat i)).2.2))) i a9.2 a10.2) (br (eqw a10.2.b a10.2.b) (br (! (Decidable.decide (Eq a9.2.b a10.2.b))) (KR false (wrapK .i64 (now
    + (wrapK .i64 (@rd (Ty.pair (Ty.int .u8) (Ty.pair (Ty.int .i64) (Ty.int .u32))) l (Int.toNat i)).2.2))) i a9.2 a10.2) (KN (wrapK .i64 (now + (wrapK .i64 (@rd (Ty.pair
    (Ty.int .u8) (Ty.pair (Ty.int .i64) (Ty.int .u32))) l (Int.toNat i)).2.2))) (wrapK .i64 (i + 1)) a9.2 a10.2)) none)) none)) none)))))) (br (ieq y.s y.s) (br (! (ieq
    (wrapK .i64 x.s) y.s)) (KR false (wrapK .i64 (now + (wrapK .i64 (@rd (Ty.pair (Ty.int .u8) (Ty.pair (Ty.int .i64) (Ty.int .u32))) l (Int.toNat i)).2.2))) i x y) (br
    (ieq y.d y.d) (br (! (ieq x.d y.d)) (KR false (wrapK .i64 (now + (wrapK .i64 (@rd (Ty.pair (Ty.int .u8) (Ty.pair (Ty.int .i64) (Ty.int .u32))) l (Int.toNat i)).2.2)))
    i x y) (br (eqw y.b y.b) (br (! (Decidable.decide (Eq x.b y.b))) (KR false (wrapK .i64 (now + (wrapK .i64 (@rd (Ty.pair (Ty.int .u8) (Ty.pair (Ty.int .i64) (Ty.int
    .u32))) l (Int.toNat i)).2.2))) i x y) (KN (wrapK .i64 (now + (wrapK .i64 (@rd (Ty.pair (Ty.int .u8) (Ty.pair (Ty.int .i64) (Ty.int .u32))) l (Int.toNat i)).2.2)))
    (wrapK .i64 (i + 1)) x y)) none)) none)) none))))) none))))) none))) (br (inb i (List.length l)) (br (ieq (Int.tmod (@rd (Ty.pair (Ty.int .u8) (Ty.pair (Ty.int .i64)
    (Ty.int .u32))) l (Int.toNat i)).1 5) 0) (bnd (p.s ⟨fk, ty, rm, rs, ag, up, dn, (Nat.beq (List.length ex) 0)⟩ x (wrapK .i64 (now + (wrapK .i64 (@rd (Ty.pair (Ty.int
    .u8) (Ty.pair (Ty.int .i64) (Ty.int .u32))) l (Int.toNat i)).2.2)))) (fun a11 => (bnd (w.s ⟨fk', ty', rm', rs', ag', up', dn', (Nat.beq (List.length ex) 0)⟩ y (wrapK
    .i64 (now + (wrapK .i64 (@rd (Ty.pair (Ty.int .u8) (Ty.pair (Ty.int .i64) (Ty.int .u32))) l (Int.toNat i)).2.2)))) (fun a12 => (br (! (br (br (iF a11.1 a12.1)
    (Decidable.decide (Eq a12.2.1 (ieq (br a11.2.1 0 4) 0))) false) (br a12.2.1 true (ieq (br a11.2.1 0 4) 4)) false)) (KR false (wrapK .i64 (now + (wrapK .i64 (@rd
    (Ty.pair (Ty.int .u8) (Ty.pair (Ty.int .i64) (Ty.int .u32))) l (Int.toNat i)).2.2))) i a11.2.2 a12.2.2) (br (ieq a12.2.2.s a12.2.2.s) (br (! (ieq (wrapK .i64
    a11.2.2.s) a12.2.2.s)) (KR false (wrapK .i64 (now + (wrapK .i64 (@rd (Ty.pair (Ty.int .u8) (Ty.pair (Ty.int .i64) (Ty.int .u32))) l (Int.toNat i)).2.2))) i a11.2.2
    a12.2.2) (br (ieq a12.2.2.d a12.2.2.d) (br (! (ieq a11.2.2.d a12.2.2.d)) (KR false (wrapK .i64 (now + (wrapK .i64 (@rd (Ty.pair (Ty.int .u8) (Ty.pair (Ty.int .i64)
    (Ty.int .u32))) l (Int.toNat i)).2.2))) i a11.2.2 a12.2.2) (br (eqw a12.2.2.b a12.2.2.b) (br (! (Decidable.decide (Eq a11.2.2.b a12.2.2.b))) (KR false (wrapK .i64 (now
    + (wrapK .i64 (@rd (Ty.pair (Ty.int .u8) (Ty.pair (Ty.int .i64) (Ty.int .u32))) l (Int.toNat i)).2.2))) i a11.2.2 a12.2.2) (KN (wrapK .i64 (now + (wrapK .i64 (@rd
    (Ty.pair (Ty.int .u8) (Ty.pair (Ty.int .i64) (Ty.int .u32))) l (Int.toNat i)).2.2))) (wrapK .i64 (i + 1)) a11.2.2 a12.2.2)) none)) none)) none)))))) (br (ieq (Int.tmod
    (@rd (Ty.pair (Ty.int .u8) (Ty.pair (Ty.int .i64) (Ty.int .u32))) l (Int.toNat i)).1 5) 1) (bnd (p.t ⟨fk, ty, rm, rs, ag, up, dn, (Nat.beq (List.length ex) 0)⟩ x
    (wrapK .i64 (now + (wrapK .i64 (@rd (Ty.pair (Ty.int .u8) (Ty.pair (Ty.int .i64) (Ty.int .u32))) l (Int.toNat i)).2.2)))) (fun a13 => (bnd (w.t ⟨fk', ty', rm', rs',
    ag', up', dn', (Nat.beq (List.length ex) 0)⟩ y (wrapK .i64 (now + (wrapK .i64 (@rd (Ty.pair (Ty.int .u8) (Ty.pair (Ty.int .i64) (Ty.int .u32))) l (Int.toNat
    i)).2.2)))) (fun a14 => (br ((eqw a13.1.sp a13.1.sp) && ((eqw a13.1.ki a13.1.ki) && ((eqw a13.1.ag a13.1.ag) && ((ieq a13.1.r a13.1.r) && true)))) (br (iF a13.1 a14.1)
    (br (! (ieq (br a13.2.1 0 4) 0)) (KR false (wrapK .i64 (now + (wrapK .i64 (@rd (Ty.pair (Ty.int .u8) (Ty.pair (Ty.int .i64) (Ty.int .u32))) l (Int.toNat i)).2.2))) i
    a13.2.2 a14.2) (br (ieq a14.2.s a14.2.s) (br (! (ieq (wrapK .i64 a13.2.2.s) a14.2.s)) (KR false (wrapK .i64 (now + (wrapK .i64 (@rd (Ty.pair (Ty.int .u8) (Ty.pair
    (Ty.int .i64) (Ty.int .u32))) l (Int.toNat i)).2.2))) i a13.2.2 a14.2) (br (ieq a14.2.d a14.2.d) (br (! (ieq a13.2.2.d a14.2.d)) (KR false (wrapK .i64 (now + (wrapK
    .i64 (@rd (Ty.pair (Ty.int .u8) (Ty.pair (Ty.int .i64) (Ty.int .u32))) l (Int.toNat i)).2.2))) i a13.2.2 a14.2) (br (eqw a14.2.b a14.2.b) (br (! (Decidable.decide (Eq
    a13.2.2.b a14.2.b))) (KR false (wrapK .i64 (now + (wrapK .i64 (@rd (Ty.pair (Ty.int .u8) (Ty.pair (Ty.int .i64) (Ty.int .u32))) l (Int.toNat i)).2.2))) i a13.2.2
    a14.2) (KN (wrapK .i64 (now + (wrapK .i64 (@rd (Ty.pair (Ty.int .u8) (Ty.pair (Ty.int .i64) (Ty.int .u32))) l (Int.toNat i)).2.2))) (wrapK .i64 (i + 1)) a13.2.2
    a14.2)) none)) none)) none)) (KR false (wrapK .i64 (now + (wrapK .i64 (@rd (Ty.pair (Ty.int .u8) (Ty.pair (Ty.int .i64) (Ty.int .u32))) l (Int.toNat i)).2.2))) i
    a13.2.2 a14.2)) none))))) (br (ieq (Int.tmod (@rd (Ty.pair (Ty.int .u8) (Ty.pair (Ty.int .i64) (Ty.int .u32))) l (Int.toNat i)).1 5) 2) (bnd (p.x ⟨fk, ty, rm, rs, ag,
    up, dn, (Nat.beq (List.length ex) 0)⟩ x (@rd (Ty.pair (Ty.int .u8) (Ty.pair (Ty.int .i64) (Ty.int .u32))) l (Int.toNat i)).2.1 (wrapK .i64 (now + (wrapK .i64 (@rd
    (Ty.pair (Ty.int .u8) (Ty.pair (Ty.int .i64) (Ty.int .u32))) l (Int.toNat i)).2.2)))) (fun a15 => (br (ieq (@rd (Ty.pair (Ty.int .u8) (Ty.pair (Ty.int .i64) (Ty.int
    .u32))) l (Int.toNat i)).2.1 (@rd (Ty.pair (Ty.int .u8) (Ty.pair (Ty.int .i64) (Ty.int .u32))) l (Int.toNat i)).2.1) (br (ieq (wrapK .i64 (now + (wrapK .i64 (@rd
    (Ty.pair (Ty.int .u8) (Ty.pair (Ty.int .i64) (Ty.int .u32))) l (Int.toNat i)).2.2))) (wrapK .i64 (now + (wrapK .i64 (@rd (Ty.pair (Ty.int .u8) (Ty.pair (Ty.int .i64)
    (Ty.int .u32))) l (Int.toNat i)).2.2)))) (bnd (w.x ⟨fk', ty', rm', rs', ag', up', dn', (Nat.beq (List.length ex) 0)⟩ y (@rd (Ty.pair (Ty.int .u8) (Ty.pair (Ty.int
    .i64) (Ty.int .u32))) l (Int.toNat i)).2.1 (wrapK .i64 (now + (wrapK .i64 (@rd (Ty.pair (Ty.int .u8) (Ty.pair (Ty.int .i64) (Ty.int .u32))) l (Int.toNat i)).2.2))))
    (fun a16 => (br (! (iF a15.1 a16.1)) (KR false (wrapK .i64 (now + (wrapK .i64 (@rd (Ty.pair (Ty.int .u8) (Ty.pair (Ty.int .i64) (Ty.int .u32))) l (Int.toNat i)).2.2)))
    i a15.2 a16.2) (br (ieq a16.2.s a16.2.s) (br (! (ieq (wrapK .i64 a15.2.s) a16.2.s)) (KR false (wrapK .i64 (now + (wrapK .i64 (@rd (Ty.pair (Ty.int .u8) (Ty.pair
    (Ty.int .i64) (Ty.int .u32))) l (Int.toNat i)).2.2))) i a15.2 a16.2) (br (ieq a16.2.d a16.2.d) (br (! (ieq a15.2.d a16.2.d)) (KR false (wrapK .i64 (now + (wrapK .i64
    (@rd (Ty.pair (Ty.int .u8) (Ty.pair (Ty.int .i64) (Ty.int .u32))) l (Int.toNat i)).2.2))) i a15.2 a16.2) (br (eqw a16.2.b a16.2.b) (br (! (Decidable.decide (Eq a15.2.b
    a16.2.b))) (KR false (wrapK .i64 (now + (wrapK .i64 (@rd (Ty.pair (Ty.int .u8) (Ty.pair (Ty.int .i64) (Ty.int .u32))) l (Int.toNat i)).2.2))) i a15.2 a16.2) (KN (wrapK
    .i64 (now + (wrapK .i64 (@rd (Ty.pair (Ty.int .u8) (Ty.pair (Ty.int .i64) (Ty.int .u32))) l (Int.toNat i)).2.2))) (wrapK .i64 (i + 1)) a15.2 a16.2)) none)) none))
    none)))) none) none))) (br (ieq (Int.tmod (@rd (Ty.pair (Ty.int .u8) (Ty.pair (Ty.int .i64) (Ty.int .u32))) l (Int.toNat i)).1 5) 3) (bnd (p.k ⟨fk, ty, rm, rs, ag, up,
    dn, (Nat.beq (List.length ex) 0)⟩ x (wrapK .i64 (now + (wrapK .i64 (@rd (Ty.pair (Ty.int .u8) (Ty.pair (Ty.int .i64) (Ty.int .u32))) l (Int.toNat i)).2.2)))) (fun a17
    => (bnd (w.k ⟨fk', ty', rm', rs', ag', up', dn', (Nat.beq (List.length ex) 0)⟩ y (wrapK .i64 (now + (wrapK .i64 (@rd (Ty.pair (Ty.int .u8) (Ty.pair (Ty.int .i64)
    (Ty.int .u32))) l (Int.toNat i)).2.2)))) (fun a18 => (br (! (iF a17.1 a18.1)) (KR false (wrapK .i64 (now + (wrapK .i64 (@rd (Ty.pair (Ty.int .u8) (Ty.pair (Ty.int
    .i64) (Ty.int .u32))) l (Int.toNat i)).2.2))) i a17.2 a18.2) (br (ieq a18.2.s a18.2.s) (br (! (ieq (wrapK .i64 a17.2.s) a18.2.s)) (KR false (wrapK .i64 (now + (wrapK
    .i64 (@rd (Ty.pair (Ty.int .u8) (Ty.pair (Ty.int .i64) (Ty.int .u32))) l (Int.toNat i)).2.2))) i a17.2 a18.2) (br (ieq a18.2.d a18.2.d) (br (! (ieq a17.2.d a18.2.d))
    (KR false (wrapK .i64 (now + (wrapK .i64 (@rd (Ty.pair (Ty.int .u8) (Ty.pair (Ty.int .i64) (Ty.int .u32))) l (Int.toNat i)).2.2))) i a17.2 a18.2) (br (eqw a18.2.b
    a18.2.b) (br (! (Decidable.decide (Eq a17.2.b a18.2.b))) (KR false (wrapK .i64 (now + (wrapK .i64 (@rd (Ty.pair (Ty.int .u8) (Ty.pair (Ty.int .i64) (Ty.int .u32))) l
    (Int.toNat i)).2.2))) i a17.2 a18.2) (KN (wrapK .i64 (now + (wrapK .i64 (@rd (Ty.pair (Ty.int .u8) (Ty.pair (Ty.int .i64) (Ty.int .u32))) l (Int.toNat i)).2.2)))
    (wrapK .i64 (i + 1)) a17.2 a18.2)) none)) none)) none)))))) (br (ieq y.s y.s) (br (! (ieq (wrapK .i64 x.s) y.s)) (KR false (wrapK .i64 (now + (wrapK .i64 (@rd (Ty.pair
    (Ty.int .u8) (Ty.pair (Ty.int .i64) (Ty.int .u32))) l (Int.toNat i)).2.2))) i x y) (br (ieq y.d y.d) (br (! (ieq x.d y.d)) (KR false (wrapK .i64 (now + (wrapK .i64
    (@rd (Ty.pair (Ty.int .u8) (Ty.pair (Ty.int .i64) (Ty.int .u32))) l (Int.toNat i)).2.2))) i x y) (br (eqw y.b y.b) (br (! (Decidable.decide (Eq x.b y.b))) (KR false
    (wrapK .i64 (now + (wrapK .i64 (@rd (Ty.pair (Ty.int .u8) (Ty.pair (Ty.int .i64) (Ty.int .u32))) l (Int.toNat i)).2.2))) i x y) (KN (wrapK .i64 (now + (wrapK .i64 (@rd
    (Ty.pair (Ty.int .u8) (Ty.pair (Ty.int .i64) (Ty.int .u32))) l (Int.toNat i)).2.2))) (wrapK .i64 (i + 1)) x y)) none)) none)) none))))) none)) none) none) (KX false
    now i x y))
theorem t9_run {R : Type} (iF : Ou → Ou → Bool) (p : Fs) (w : Fw) (fk ty : Int) (rm : Bool) (rs ag up dn : Int) (ex : List Str) (fk' ty' : Int) (rm' : Bool) (rs' ag' up' dn' : Int) (l : List CallT.den) (x y : St) (now i : Int) (KN : Fr → Heap → Option R) (K : X → Fr → Heap → Option R) :
    roundL E (tabL (fnsT iF p w) []) 0 8 9 6 nm9 29 KN K (fr9 l false now i) (hp9 fk ty rm rs ag up dn ex fk' ty' rm' rs' ag' up' dn' x y) =
      t9 iF p w fk ty rm rs ag up dn ex fk' ty' rm' rs' ag' up' dn' l x y now i (fun n i x y => KN (fr9 l false n i) (hp9 fk ty rm rs ag up dn ex fk' ty' rm' rs' ag' up' dn' x y)) (fun r n i x y => K (.exit 0) (fr9 l r n i) (hp9 fk ty rm rs ag up dn ex fk' ty' rm' rs' ag' up' dn' x y)) (fun r n i x y => K .ret (fr9 l r n i) (hp9 fk ty rm rs ag up dn ex fk' ty' rm' rs' ag' up' dn' x y)) := by kernel_rfl
theorem t9_bnd {R R' : Type} (iF : Ou → Ou → Bool) (p : Fs) (w : Fw) (fk ty : Int) (rm : Bool) (rs ag up dn : Int) (ex : List Str) (fk' ty' : Int) (rm' : Bool) (rs' ag' up' dn' : Int) (l : List CallT.den) (x y : St) (now i : Int) (KN : Int → Int → St → St → Option R) (KX KR : Bool → Int → Int → St → St → Option R) (k : R → Option R') :
    bnd (t9 iF p w fk ty rm rs ag up dn ex fk' ty' rm' rs' ag' up' dn' l x y now i KN KX KR) k = t9 iF p w fk ty rm rs ag up dn ex fk' ty' rm' rs' ag' up' dn' l x y now i (fun n i x y => bnd (KN n i x y) k) (fun r n i x y => bnd (KX r n i x y) k) (fun r n i x y => bnd (KR r n i x y) k) := by
  simp only [t9, bnd_br, bnd_bnd, bnd_none]
def L9 (iF : Ou → Ou → Bool) (p : Fs) (w : Fw) (fk ty : Int) (rm : Bool) (rs ag up dn : Int) (ex : List Str) (fk' ty' : Int) (rm' : Bool) (rs' ag' up' dn' : Int) (l : List CallT.den) : Nat → St → St → Int → Int → Option (Bool × Bool × Int × Int × St × St)
  | 0, _, _, _, _ => none
  | v + 1, x, y, now, i => t9 iF p w fk ty rm rs ag up dn ex fk' ty' rm' rs' ag' up' dn' l x y now i (fun n i x y => L9 iF p w fk ty rm rs ag up dn ex fk' ty' rm' rs' ag' up' dn' l v x y n i) (fun r n i x y => some (true, r, n, i, x, y)) (fun r n i x y => some (false, r, n, i, x, y))
theorem run9 {R : Type} (iF : Ou → Ou → Bool) (p : Fs) (w : Fw) (fk ty : Int) (rm : Bool) (rs ag up dn : Int) (ex : List Str) (fk' ty' : Int) (rm' : Bool) (rs' ag' up' dn' : Int) (l : List CallT.den) (K : X → Fr → Heap → Option R) : ∀ (v : Nat) (x y : St) (now i : Int),
    runL E (tabL (fnsT iF p w) []) 0 8 9 6 nm9 29 K v (fr9 l false now i) (hp9 fk ty rm rs ag up dn ex fk' ty' rm' rs' ag' up' dn' x y) = bnd (L9 iF p w fk ty rm rs ag up dn ex fk' ty' rm' rs' ag' up' dn' l v x y now i) fun r => K (bif r.1 then .exit 0 else .ret) (fr9 l r.2.1 r.2.2.1 r.2.2.2.1) (hp9 fk ty rm rs ag up dn ex fk' ty' rm' rs' ag' up' dn' r.2.2.2.2.1 r.2.2.2.2.2)
  | 0, _, _, _, _ => rfl
  | v + 1, x, y, now, i => by
    rw [runL_succ, t9_run, L9, t9_bnd]
    simp only [run9 iF p w fk ty rm rs ag up dn ex fk' ty' rm' rs' ag' up' dn' l K v, bnd_some, cond_true, cond_false]

end Go.VI.Svc
