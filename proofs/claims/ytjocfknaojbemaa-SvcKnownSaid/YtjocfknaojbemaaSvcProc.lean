/-
  SvcProcess: its round, its loop's contract, the function.
-/
import Derived.Test.YtjocfknaojbemaaSvcPlays
namespace Go.VI.Svc
open Go.Proofs

def nm10 := normG [1, 2, 4, 5, 6, 7, 8] [5] [] []
def fr10 (l : List CallT.den) (res : Bool) (now : Int) (runs : Bool) (i : Int) : Fr := [(1, .sl CallT l), (2, .ptr 0 0), (4, .bool res), (5, .ptr 5 0), (6, .int .i64 now), (7, .bool runs), (8, .int .i64 i)]
def hp10 (fk ty : Int) (rm : Bool) (rs ag up dn : Int) (ex : List Str) (x : St) : Heap :=
  ⟨6, [(5, .cells true (mc (f0 true fk ty rm rs ag up dn (.sl .str ex)) x)), (0, .cells true (f0 true fk ty rm rs ag up dn (.sl .str ex)))]⟩
def to10 {R : Type} (K : Bool → Int → Bool → Int → St → Option R) (tm : Fr) (H : Heap) : Option R := match tm.get 4, tm.get 6, tm.get 7, tm.get 8, H.get 5 with
  | .bool r, .int _ n, .bool u, .int _ i, some (.cells _ cs) => match st4 (cs.drop 25) with
    | some x => K r n u i x
    | _ => none
  | _, _, _, _, _ => none
def t10 {R : Type} (iF : Ou → Ou → Bool) (p : Fs) (w : Fw) (fk ty : Int) (rm : Bool) (rs ag up dn : Int) (ex : List Str) (l : List CallT.den) (x : St) (now : Int) (runs : Bool) (i : Int) (KN : Int → Bool → Int → St → Option R) (KX KR : Bool → Int → Bool → Int → St → Option R) : Option R :=
  (br (ilt i (Int.ofNat (List.length l))) (br (inb i (List.length l)) (br (inb i (List.length l)) (br (ieq (Int.tmod (@rd (Ty.pair (Ty.int .u8) (Ty.pair (Ty.int .i64)
    (Ty.int .u32))) l (Int.toNat i)).1 5) 0) (bnd (p.s ⟨fk, ty, rm, rs, ag, up, dn, (Nat.beq (List.length ex) 0)⟩ x (wrapK .i64 (now + (wrapK .i64 (@rd (Ty.pair (Ty.int
    .u8) (Ty.pair (Ty.int .i64) (Ty.int .u32))) l (Int.toNat i)).2.2)))) (fun a0 => (br (br (br (br a0.1.sp runs false) true (br a0.1.sp (! (ieq fk 1)) false)) true (br
    a0.1.ki (! runs) false)) (KR false (wrapK .i64 (now + (wrapK .i64 (@rd (Ty.pair (Ty.int .u8) (Ty.pair (Ty.int .i64) (Ty.int .u32))) l (Int.toNat i)).2.2))) runs i
    a0.2.2) (br runs (br a0.1.ki (br (br (br (! (Decidable.decide (Eq a0.2.2.b (! (ieq a0.2.2.s 5))))) true (br (! (ieq a0.2.2.s 5)) (br (ieq a0.2.2.s 1) true (ieq
    a0.2.2.s 5)) false)) true (br (ieq a0.2.2.s 4) (! (! (ieq a0.2.2.s 5))) false)) (KR false (wrapK .i64 (now + (wrapK .i64 (@rd (Ty.pair (Ty.int .u8) (Ty.pair (Ty.int
    .i64) (Ty.int .u32))) l (Int.toNat i)).2.2))) (! (ieq a0.2.2.s 5)) i a0.2.2) (KN (wrapK .i64 (now + (wrapK .i64 (@rd (Ty.pair (Ty.int .u8) (Ty.pair (Ty.int .i64)
    (Ty.int .u32))) l (Int.toNat i)).2.2))) (! (ieq a0.2.2.s 5)) (wrapK .i64 (i + 1)) a0.2.2)) (br (br (br (! (Decidable.decide (Eq a0.2.2.b true))) true (br (ieq a0.2.2.s
    1) true (ieq a0.2.2.s 5))) true (br (ieq a0.2.2.s 4) false false)) (KR false (wrapK .i64 (now + (wrapK .i64 (@rd (Ty.pair (Ty.int .u8) (Ty.pair (Ty.int .i64) (Ty.int
    .u32))) l (Int.toNat i)).2.2))) true i a0.2.2) (KN (wrapK .i64 (now + (wrapK .i64 (@rd (Ty.pair (Ty.int .u8) (Ty.pair (Ty.int .i64) (Ty.int .u32))) l (Int.toNat
    i)).2.2))) true (wrapK .i64 (i + 1)) a0.2.2))) (br a0.1.sp (br a0.1.ki (br (br (br (! (Decidable.decide (Eq a0.2.2.b (! (ieq a0.2.2.s 5))))) true (br (! (ieq a0.2.2.s
    5)) (br (ieq a0.2.2.s 1) true (ieq a0.2.2.s 5)) false)) true (br (ieq a0.2.2.s 4) (! (! (ieq a0.2.2.s 5))) false)) (KR false (wrapK .i64 (now + (wrapK .i64 (@rd
    (Ty.pair (Ty.int .u8) (Ty.pair (Ty.int .i64) (Ty.int .u32))) l (Int.toNat i)).2.2))) (! (ieq a0.2.2.s 5)) i a0.2.2) (KN (wrapK .i64 (now + (wrapK .i64 (@rd (Ty.pair
    (Ty.int .u8) (Ty.pair (Ty.int .i64) (Ty.int .u32))) l (Int.toNat i)).2.2))) (! (ieq a0.2.2.s 5)) (wrapK .i64 (i + 1)) a0.2.2)) (br (br (br (! (Decidable.decide (Eq
    a0.2.2.b true))) true (br (ieq a0.2.2.s 1) true (ieq a0.2.2.s 5))) true (br (ieq a0.2.2.s 4) false false)) (KR false (wrapK .i64 (now + (wrapK .i64 (@rd (Ty.pair
    (Ty.int .u8) (Ty.pair (Ty.int .i64) (Ty.int .u32))) l (Int.toNat i)).2.2))) true i a0.2.2) (KN (wrapK .i64 (now + (wrapK .i64 (@rd (Ty.pair (Ty.int .u8) (Ty.pair
    (Ty.int .i64) (Ty.int .u32))) l (Int.toNat i)).2.2))) true (wrapK .i64 (i + 1)) a0.2.2))) (br (br (br (! (Decidable.decide (Eq a0.2.2.b false))) true false) true (br
    (ieq a0.2.2.s 4) true false)) (KR false (wrapK .i64 (now + (wrapK .i64 (@rd (Ty.pair (Ty.int .u8) (Ty.pair (Ty.int .i64) (Ty.int .u32))) l (Int.toNat i)).2.2))) false
    i a0.2.2) (KN (wrapK .i64 (now + (wrapK .i64 (@rd (Ty.pair (Ty.int .u8) (Ty.pair (Ty.int .i64) (Ty.int .u32))) l (Int.toNat i)).2.2))) false (wrapK .i64 (i + 1))
    a0.2.2))))))) (br (ieq (Int.tmod (@rd (Ty.pair (Ty.int .u8) (Ty.pair (Ty.int .i64) (Ty.int .u32))) l (Int.toNat i)).1 5) 1) (bnd (p.t ⟨fk, ty, rm, rs, ag, up, dn,
    (Nat.beq (List.length ex) 0)⟩ x (wrapK .i64 (now + (wrapK .i64 (@rd (Ty.pair (Ty.int .u8) (Ty.pair (Ty.int .i64) (Ty.int .u32))) l (Int.toNat i)).2.2)))) (fun a1 =>
    (br (br (br (br a1.1.sp runs false) true (br a1.1.sp (! (ieq fk 1)) false)) true (br a1.1.ki (! runs) false)) (KR false (wrapK .i64 (now + (wrapK .i64 (@rd (Ty.pair
    (Ty.int .u8) (Ty.pair (Ty.int .i64) (Ty.int .u32))) l (Int.toNat i)).2.2))) runs i a1.2.2) (br runs (br a1.1.ki (br (br (br (! (Decidable.decide (Eq a1.2.2.b (! (ieq
    a1.2.2.s 5))))) true (br (! (ieq a1.2.2.s 5)) (br (ieq a1.2.2.s 1) true (ieq a1.2.2.s 5)) false)) true (br (ieq a1.2.2.s 4) (! (! (ieq a1.2.2.s 5))) false)) (KR false
    (wrapK .i64 (now + (wrapK .i64 (@rd (Ty.pair (Ty.int .u8) (Ty.pair (Ty.int .i64) (Ty.int .u32))) l (Int.toNat i)).2.2))) (! (ieq a1.2.2.s 5)) i a1.2.2) (KN (wrapK .i64
    (now + (wrapK .i64 (@rd (Ty.pair (Ty.int .u8) (Ty.pair (Ty.int .i64) (Ty.int .u32))) l (Int.toNat i)).2.2))) (! (ieq a1.2.2.s 5)) (wrapK .i64 (i + 1)) a1.2.2)) (br (br
    (br (! (Decidable.decide (Eq a1.2.2.b true))) true (br (ieq a1.2.2.s 1) true (ieq a1.2.2.s 5))) true (br (ieq a1.2.2.s 4) false false)) (KR false (wrapK .i64 (now +
    (wrapK .i64 (@rd (Ty.pair (Ty.int .u8) (Ty.pair (Ty.int .i64) (Ty.int .u32))) l (Int.toNat i)).2.2))) true i a1.2.2) (KN (wrapK .i64 (now + (wrapK .i64 (@rd (Ty.pair
    (Ty.int .u8) (Ty.pair (Ty.int .i64) (Ty.int .u32))) l (Int.toNat i)).2.2))) true (wrapK .i64 (i + 1)) a1.2.2))) (br a1.1.sp (br a1.1.ki (br (br (br (!
    (Decidable.decide (Eq a1.2.2.b (! (ieq a1.2.2.s 5))))) true (br (! (ieq a1.2.2.s 5)) (br (ieq a1.2.2.s 1) true (ieq a1.2.2.s 5)) false)) true (br (ieq a1.2.2.s 4) (!
    (! (ieq a1.2.2.s 5))) false)) (KR false (wrapK .i64 (now + (wrapK .i64 (@rd (Ty.pair (Ty.int .u8) (Ty.pair (Ty.int .i64) (Ty.int .u32))) l (Int.toNat i)).2.2))) (!
    (ieq a1.2.2.s 5)) i a1.2.2) (KN (wrapK .i64 (now + (wrapK .i64 (@rd (Ty.pair (Ty.int .u8) (Ty.pair (Ty.int .i64) (Ty.int .u32))) l (Int.toNat i)).2.2))) (! (ieq
    a1.2.2.s 5)) (wrapK .i64 (i + 1)) a1.2.2)) (br (br (br (! (Decidable.decide (Eq a1.2.2.b true))) true (br (ieq a1.2.2.s 1) true (ieq a1.2.2.s 5))) true (br (ieq
    a1.2.2.s 4) false false)) (KR false (wrapK .i64 (now + (wrapK .i64 (@rd (Ty.pair (Ty.int .u8) (Ty.pair (Ty.int .i64) (Ty.int .u32))) l (Int.toNat i)).2.2))) true i
    a1.2.2) (KN (wrapK .i64 (now + (wrapK .i64 (@rd (Ty.pair (Ty.int .u8) (Ty.pair (Ty.int .i64) (Ty.int .u32))) l (Int.toNat i)).2.2))) true (wrapK .i64 (i + 1))
    a1.2.2))) (br (br (br (! (Decidable.decide (Eq a1.2.2.b false))) true false) true (br (ieq a1.2.2.s 4) true false)) (KR false (wrapK .i64 (now + (wrapK .i64 (@rd
    (Ty.pair (Ty.int .u8) (Ty.pair (Ty.int .i64) (Ty.int .u32))) l (Int.toNat i)).2.2))) false i a1.2.2) (KN (wrapK .i64 (now + (wrapK .i64 (@rd (Ty.pair (Ty.int .u8)
    (Ty.pair (Ty.int .i64) (Ty.int .u32))) l (Int.toNat i)).2.2))) false (wrapK .i64 (i + 1)) a1.2.2))))))) (br (ieq (Int.tmod (@rd (Ty.pair (Ty.int .u8) (Ty.pair (Ty.int
    .i64) (Ty.int .u32))) l (Int.toNat i)).1 5) 2) (br (inb i (List.length l)) (bnd (p.x ⟨fk, ty, rm, rs, ag, up, dn, (Nat.beq (List.length ex) 0)⟩ x (@rd (Ty.pair (Ty.int
    .u8) (Ty.pair (Ty.int .i64) (Ty.int .u32))) l (Int.toNat i)).2.1 (wrapK .i64 (now + (wrapK .i64 (@rd (Ty.pair (Ty.int .u8) (Ty.pair (Ty.int .i64) (Ty.int .u32))) l
    (Int.toNat i)).2.2)))) (fun a2 => (br (br (br (br a2.1.sp false false) true (br a2.1.sp (! (ieq fk 1)) false)) true (br a2.1.ki true false)) (KR false (wrapK .i64 (now
    + (wrapK .i64 (@rd (Ty.pair (Ty.int .u8) (Ty.pair (Ty.int .i64) (Ty.int .u32))) l (Int.toNat i)).2.2))) false i a2.2) (br a2.1.sp (br a2.1.ki (br (br (br (!
    (Decidable.decide (Eq a2.2.b (! (ieq a2.2.s 5))))) true (br (! (ieq a2.2.s 5)) (br (ieq a2.2.s 1) true (ieq a2.2.s 5)) false)) true (br (ieq a2.2.s 4) (! (! (ieq
    a2.2.s 5))) false)) (KR false (wrapK .i64 (now + (wrapK .i64 (@rd (Ty.pair (Ty.int .u8) (Ty.pair (Ty.int .i64) (Ty.int .u32))) l (Int.toNat i)).2.2))) (! (ieq a2.2.s
    5)) i a2.2) (KN (wrapK .i64 (now + (wrapK .i64 (@rd (Ty.pair (Ty.int .u8) (Ty.pair (Ty.int .i64) (Ty.int .u32))) l (Int.toNat i)).2.2))) (! (ieq a2.2.s 5)) (wrapK .i64
    (i + 1)) a2.2)) (br (br (br (! (Decidable.decide (Eq a2.2.b true))) true (br (ieq a2.2.s 1) true (ieq a2.2.s 5))) true (br (ieq a2.2.s 4) false false)) (KR false
    (wrapK .i64 (now + (wrapK .i64 (@rd (Ty.pair (Ty.int .u8) (Ty.pair (Ty.int .i64) (Ty.int .u32))) l (Int.toNat i)).2.2))) true i a2.2) (KN (wrapK .i64 (now + (wrapK
    .i64 (@rd (Ty.pair (Ty.int .u8) (Ty.pair (Ty.int .i64) (Ty.int .u32))) l (Int.toNat i)).2.2))) true (wrapK .i64 (i + 1)) a2.2))) (br (br (br (! (Decidable.decide (Eq
    a2.2.b false))) true false) true (br (ieq a2.2.s 4) true false)) (KR false (wrapK .i64 (now + (wrapK .i64 (@rd (Ty.pair (Ty.int .u8) (Ty.pair (Ty.int .i64) (Ty.int
    .u32))) l (Int.toNat i)).2.2))) false i a2.2) (KN (wrapK .i64 (now + (wrapK .i64 (@rd (Ty.pair (Ty.int .u8) (Ty.pair (Ty.int .i64) (Ty.int .u32))) l (Int.toNat
    i)).2.2))) false (wrapK .i64 (i + 1)) a2.2)))))) none) (br (ieq (Int.tmod (@rd (Ty.pair (Ty.int .u8) (Ty.pair (Ty.int .i64) (Ty.int .u32))) l (Int.toNat i)).1 5) 3)
    (bnd (p.k ⟨fk, ty, rm, rs, ag, up, dn, (Nat.beq (List.length ex) 0)⟩ x (wrapK .i64 (now + (wrapK .i64 (@rd (Ty.pair (Ty.int .u8) (Ty.pair (Ty.int .i64) (Ty.int .u32)))
    l (Int.toNat i)).2.2)))) (fun a3 => (br (br (br (br a3.1.sp runs false) true (br a3.1.sp (! (ieq fk 1)) false)) true (br a3.1.ki (! runs) false)) (KR false (wrapK .i64
    (now + (wrapK .i64 (@rd (Ty.pair (Ty.int .u8) (Ty.pair (Ty.int .i64) (Ty.int .u32))) l (Int.toNat i)).2.2))) runs i a3.2) (br runs (br a3.1.ki (br (br (br (!
    (Decidable.decide (Eq a3.2.b (! (ieq a3.2.s 5))))) true (br (! (ieq a3.2.s 5)) (br (ieq a3.2.s 1) true (ieq a3.2.s 5)) false)) true (br (ieq a3.2.s 4) (! (! (ieq
    a3.2.s 5))) false)) (KR false (wrapK .i64 (now + (wrapK .i64 (@rd (Ty.pair (Ty.int .u8) (Ty.pair (Ty.int .i64) (Ty.int .u32))) l (Int.toNat i)).2.2))) (! (ieq a3.2.s
    5)) i a3.2) (KN (wrapK .i64 (now + (wrapK .i64 (@rd (Ty.pair (Ty.int .u8) (Ty.pair (Ty.int .i64) (Ty.int .u32))) l (Int.toNat i)).2.2))) (! (ieq a3.2.s 5)) (wrapK .i64
    (i + 1)) a3.2)) (br (br (br (! (Decidable.decide (Eq a3.2.b true))) true (br (ieq a3.2.s 1) true (ieq a3.2.s 5))) true (br (ieq a3.2.s 4) false false)) (KR false
    (wrapK .i64 (now + (wrapK .i64 (@rd (Ty.pair (Ty.int .u8) (Ty.pair (Ty.int .i64) (Ty.int .u32))) l (Int.toNat i)).2.2))) true i a3.2) (KN (wrapK .i64 (now + (wrapK
    .i64 (@rd (Ty.pair (Ty.int .u8) (Ty.pair (Ty.int .i64) (Ty.int .u32))) l (Int.toNat i)).2.2))) true (wrapK .i64 (i + 1)) a3.2))) (br a3.1.sp (br a3.1.ki (br (br (br (!
    (Decidable.decide (Eq a3.2.b (! (ieq a3.2.s 5))))) true (br (! (ieq a3.2.s 5)) (br (ieq a3.2.s 1) true (ieq a3.2.s 5)) false)) true (br (ieq a3.2.s 4) (! (! (ieq
    a3.2.s 5))) false)) (KR false (wrapK .i64 (now + (wrapK .i64 (@rd (Ty.pair (Ty.int .u8) (Ty.pair (Ty.int .i64) (Ty.int .u32))) l (Int.toNat i)).2.2))) (! (ieq a3.2.s
    5)) i a3.2) (KN (wrapK .i64 (now + (wrapK .i64 (@rd (Ty.pair (Ty.int .u8) (Ty.pair (Ty.int .i64) (Ty.int .u32))) l (Int.toNat i)).2.2))) (! (ieq a3.2.s 5)) (wrapK .i64
    (i + 1)) a3.2)) (br (br (br (! (Decidable.decide (Eq a3.2.b true))) true (br (ieq a3.2.s 1) true (ieq a3.2.s 5))) true (br (ieq a3.2.s 4) false false)) (KR false
    (wrapK .i64 (now + (wrapK .i64 (@rd (Ty.pair (Ty.int .u8) (Ty.pair (Ty.int .i64) (Ty.int .u32))) l (Int.toNat i)).2.2))) true i a3.2) (KN (wrapK .i64 (now + (wrapK
    .i64 (@rd (Ty.pair (Ty.int .u8) (Ty.pair (Ty.int .i64) (Ty.int .u32))) l (Int.toNat i)).2.2))) true (wrapK .i64 (i + 1)) a3.2))) (br (br (br (! (Decidable.decide (Eq
    a3.2.b false))) true false) true (br (ieq a3.2.s 4) true false)) (KR false (wrapK .i64 (now + (wrapK .i64 (@rd (Ty.pair (Ty.int .u8) (Ty.pair (Ty.int .i64) (Ty.int
    .u32))) l (Int.toNat i)).2.2))) false i a3.2) (KN (wrapK .i64 (now + (wrapK .i64 (@rd (Ty.pair (Ty.int .u8) (Ty.pair (Ty.int .i64) (Ty.int .u32))) l (Int.toNat
    i)).2.2))) false (wrapK .i64 (i + 1)) a3.2))))))) (br runs (br (br (br (! (Decidable.decide (Eq x.b true))) true (br (ieq x.s 1) true (ieq x.s 5))) true (br (ieq x.s
    4) false false)) (KR false (wrapK .i64 (now + (wrapK .i64 (@rd (Ty.pair (Ty.int .u8) (Ty.pair (Ty.int .i64) (Ty.int .u32))) l (Int.toNat i)).2.2))) true i x) (KN
    (wrapK .i64 (now + (wrapK .i64 (@rd (Ty.pair (Ty.int .u8) (Ty.pair (Ty.int .i64) (Ty.int .u32))) l (Int.toNat i)).2.2))) true (wrapK .i64 (i + 1)) x)) (br (br (br (!
    (Decidable.decide (Eq x.b false))) true false) true (br (ieq x.s 4) true false)) (KR false (wrapK .i64 (now + (wrapK .i64 (@rd (Ty.pair (Ty.int .u8) (Ty.pair (Ty.int
    .i64) (Ty.int .u32))) l (Int.toNat i)).2.2))) false i x) (KN (wrapK .i64 (now + (wrapK .i64 (@rd (Ty.pair (Ty.int .u8) (Ty.pair (Ty.int .i64) (Ty.int .u32))) l
    (Int.toNat i)).2.2))) false (wrapK .i64 (i + 1)) x))))))) none) none) (KX false now runs i x))
theorem t10_run {R : Type} (iF : Ou → Ou → Bool) (p : Fs) (w : Fw) (fk ty : Int) (rm : Bool) (rs ag up dn : Int) (ex : List Str) (l : List CallT.den) (x : St) (now : Int) (runs : Bool) (i : Int) (KN : Fr → Heap → Option R) (K : X → Fr → Heap → Option R) :
    roundL E (tabL (fnsT iF p w) []) 0 8 10 6 nm10 5 KN K (fr10 l false now runs i) (hp10 fk ty rm rs ag up dn ex x) =
      t10 iF p w fk ty rm rs ag up dn ex l x now runs i (fun n u i x => KN (fr10 l false n u i) (hp10 fk ty rm rs ag up dn ex x)) (fun r n u i x => K (.exit 0) (fr10 l r n u i) (hp10 fk ty rm rs ag up dn ex x)) (fun r n u i x => K .ret (fr10 l r n u i) (hp10 fk ty rm rs ag up dn ex x)) := by kernel_rfl
theorem t10_bnd {R R' : Type} (iF : Ou → Ou → Bool) (p : Fs) (w : Fw) (fk ty : Int) (rm : Bool) (rs ag up dn : Int) (ex : List Str) (l : List CallT.den) (x : St) (now : Int) (runs : Bool) (i : Int) (KN : Int → Bool → Int → St → Option R) (KX KR : Bool → Int → Bool → Int → St → Option R) (k : R → Option R') :
    bnd (t10 iF p w fk ty rm rs ag up dn ex l x now runs i KN KX KR) k = t10 iF p w fk ty rm rs ag up dn ex l x now runs i (fun n u i x => bnd (KN n u i x) k) (fun r n u i x => bnd (KX r n u i x) k) (fun r n u i x => bnd (KR r n u i x) k) := by
  simp only [t10, bnd_br, bnd_bnd, bnd_none]
def L10 (iF : Ou → Ou → Bool) (p : Fs) (w : Fw) (fk ty : Int) (rm : Bool) (rs ag up dn : Int) (ex : List Str) (l : List CallT.den) : Nat → St → Int → Bool → Int → Option (Bool × Bool × Int × Bool × Int × St)
  | 0, _, _, _, _ => none
  | v + 1, x, now, runs, i => t10 iF p w fk ty rm rs ag up dn ex l x now runs i (fun n u i x => L10 iF p w fk ty rm rs ag up dn ex l v x n u i) (fun r n u i x => some (true, r, n, u, i, x)) (fun r n u i x => some (false, r, n, u, i, x))
theorem run10 {R : Type} (iF : Ou → Ou → Bool) (p : Fs) (w : Fw) (fk ty : Int) (rm : Bool) (rs ag up dn : Int) (ex : List Str) (l : List CallT.den) (K : X → Fr → Heap → Option R) : ∀ (v : Nat) (x : St) (now : Int) (runs : Bool) (i : Int),
    runL E (tabL (fnsT iF p w) []) 0 8 10 6 nm10 5 K v (fr10 l false now runs i) (hp10 fk ty rm rs ag up dn ex x) = bnd (L10 iF p w fk ty rm rs ag up dn ex l v x now runs i) fun r => K (bif r.1 then .exit 0 else .ret) (fr10 l r.2.1 r.2.2.1 r.2.2.2.1 r.2.2.2.2.1) (hp10 fk ty rm rs ag up dn ex r.2.2.2.2.2)
  | 0, _, _, _, _ => rfl
  | v + 1, x, now, runs, i => by
    rw [runL_succ, t10_run, L10, t10_bnd]
    simp only [run10 iF p w fk ty rm rs ag up dn ex l K v, bnd_some, cond_true, cond_false]

def dec0 : List A → Option Fc
  | [.int .u8 fk, .nils, .nils, .nils, .nils, .nils, .nils, .nils, .bool false, .int .i64 0, .int .i64 0, .int .u8 ty, .bool rm, .int .u8 rs, .int .i64 ag, .int .i64 up, .int .i64 dn, .sl .str ex, .nils, .int .i64 0, .int .i64 0, .bool false, .bool false, .bool false, .str []] => some ⟨fk, ty, rm, rs, ag, up, dn, ex⟩
  | _ => none
theorem dec0_eq {cs : List A} {f : Fc} (h : dec0 cs = some f) : cs = f.cells true := by
  unfold dec0 at h
  split at h
  · cases h; rfl
  · cases h
abbrev R10 := Bool × Int × Bool × Int × St
/-- The box of the file, and the machine's own, are the same file: both begin so. -/
def l10 (L : Fc → List CallT.den → St → Int → Bool → Int → Option R10) : LoopC := fun R tm H K => bif Nat.beq H.next 5 then (match nm10 5 tm H with
  | some ([(1, lv), (2, .ptr 0 0), (4, .bool false), (5, .ptr 5 0), (6, .int .i64 now), (7, .bool runs), (8, .int .i64 i)], ⟨6, [(5, .cells true cm), (0, .cells true cb)]⟩) => match asCalls lv, decC cm, dec0 cb with
    | some l, some a, some g => br (sameFc a.1 g) (bnd (L a.1 l a.2 now runs i) fun r => K (.exit 0) (fr10 l r.1 r.2.1 r.2.2.1 r.2.2.2.1) (hp10 a.1.fk a.1.ty a.1.rm a.1.rs a.1.ag a.1.up a.1.dn a.1.ex r.2.2.2.2)) none
    | _, _, _ => none
  | _ => none) else none
where
  sameFc (f g : Fc) : Bool := ieq f.fk g.fk && (ieq f.ty g.ty && (eqw f.rm g.rm && (ieq f.rs g.rs && (ieq f.ag g.ag && (ieq f.up g.up && (ieq f.dn g.dn && sameL' (Ty.same .str) f.ex g.ex))))))
theorem eqw_eq {a b : Bool} (h : eqw a b = true) : a = b := by cases a <;> cases b <;> first | rfl | cases h
theorem sameL_eq : ∀ {l m : List Str}, sameL' (Ty.same .str) l m = true → l = m
  | [], [], _ => rfl
  | a :: r, b :: s, h => by
    simp only [sameL', Bool.and_eq_true] at h
    have h1 : (a == b) = true := h.1
    rw [eq_of_beq h1, sameL_eq h.2]
  | [], _ :: _, h => by cases h
  | _ :: _, [], h => by cases h
theorem sameFc_eq {f g : Fc} (h : l10.sameFc f g = true) : f = g := by
  obtain ⟨a1, a2, a3, a4, a5, a6, a7, a8⟩ := f
  obtain ⟨b1, b2, b3, b4, b5, b6, b7, b8⟩ := g
  simp only [l10.sameFc, Bool.and_eq_true, ieq_eq, decide_eq_true_eq] at h
  obtain ⟨rfl, rfl, h3, rfl, rfl, rfl, rfl, h8⟩ := h
  rw [eqw_eq h3, sameL_eq h8]
def L10e (f : Fc) (l : List CallT.den) (x : St) (now : Int) (runs : Bool) (i : Int) : Option R10 :=
    match L10 isF pF wF f.fk f.ty f.rm f.rs f.ag f.up f.dn f.ex l (l.length + 1) x now runs i with
    | some (true, r) => some r
    | _ => none
theorem l10_ok : LpOk Try.prog 10 6 (l10 L10e) := by
  refine lp_ok (T := tabL (fnsT isF pF wF) []) (u := 0) (d := 8) (nm := nm10) E_ok (tabL_ok fnsT_ok (fun _ h => by cases h)) (normG_ok ..) (by kernel_rfl) (by kernel_rfl) fun R tm H K r h => ?_
  unfold l10 at h
  cases hb : Nat.beq H.next 5 with
  | false => rw [hb] at h; cases h
  | true =>
    rw [hb] at h
    rw [Nat.eq_of_beq_eq_true hb]
    simp only [cond_true] at h
    split at h
    · rename_i lv now runs i cm cb hn
      split at h
      · rename_i l a g e1 e2 e3
        obtain ⟨f, x⟩ := a
        rw [asCalls_eq e1, decC_eq e2, dec0_eq e3] at hn
        refine ⟨l.length + 1, _, _, hn, ?_⟩
        dsimp only at h
        rw [br_eq] at h
        split at h
        · rename_i hs
          have hs := sameFc_eq hs
          subst hs
          unfold L10e at h
          have := run10 isF pF wF f.fk f.ty f.rm f.rs f.ag f.up f.dn f.ex l K (l.length + 1) x now runs i
          generalize L10 isF pF wF f.fk f.ty f.rm f.rs f.ag f.up f.dn f.ex l (l.length + 1) x now runs i = z at h this
          refine Eq.trans this ?_
          match z, h with
          | some (true, q), h => exact h
        · cases h
      · cases h
    · cases h
def f10 {R : Type} (L : Fc → List CallT.den → St → Int → Bool → Int → Option R10) (iF : Ou → Ou → Bool) (p : Fs) (w : Fw) (fk ty : Int) (rm : Bool) (rs ag up dn : Int) (ex : List Str) (l : List CallT.den) (K : Bool → Option R) : Option R :=
  (br (! (Nat.ble 101 (List.length l))) (br (! (br (br (br (br (br (br (ile 1 fk) (ile fk 3) false) (br (! (ieq fk 1)) true (br (ile 1 ty) (ile ty 3) false)) false) (ile 0
    up) false) (ile 0 dn) false) (ile 0 ag) false) (Nat.ble (List.length ex) 64) false)) (K true) (br ((ieq fk fk) && ((ieq ty ty) && ((eqw rm rm) && ((ieq rs rs) && ((ieq
    ag ag) && ((ieq up up) && ((ieq dn dn) && (sameL' (Ty.same Ty.str) ex ex)))))))) (bnd (L ⟨fk, ty, rm, rs, ag, up, dn, ex⟩ l ⟨1, false, 9223372036854775807, false⟩ 0
    false 0) (fun r0 => (K true))) none)) (K true))
theorem f10_eq {R : Type} (L : Fc → List CallT.den → St → Int → Bool → Int → Option R10) (iF : Ou → Ou → Bool) (p : Fs) (w : Fw) (fk ty : Int) (rm : Bool) (rs ag up dn : Int) (ex : List Str) (l : List CallT.den) (K : Bool → Option R) : viF E (tabL (fnsT iF p w) [(10, 6, l10 L)]) 2 8 10 [.agg (f0 true fk ty rm rs ag up dn (.sl .str ex)), .sl CallT l] ⟨0, []⟩ (fun v H => match v with | .bool b => K b | _ => none) = f10 L iF p w fk ty rm rs ag up dn ex l K := by kernel_rfl

end Go.VI.Svc
