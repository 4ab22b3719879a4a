/-
  SvcStops: its loop's round and contract, and the function.
-/
import Derived.Test.YtjocfknaojbemaaSvcLaw10
namespace Go.VI.Svc
open Go.Proofs

def nm12 := normG [1, 2, 3, 8, 9, 10, 11, 12] [9, 10] [] []
def fr12 (l : List CallT.den) (exits : Bool) (code : Int) (res : Bool) (now i : Int) : Fr := [(1, .sl CallT l), (2, .bool exits), (3, .int .i64 code), (8, .bool res), (9, .ptr 22 0), (10, .ptr 23 0), (11, .int .i64 now), (12, .int .i64 i)]
def hp12 (fk ty : Int) (rm : Bool) (rs ag up dn : Int) (ex : List Str) (fk' ty' : Int) (rm' : Bool) (rs' ag' up' dn' : Int) (x y : St) : Heap :=
  ⟨24, [(22, .cells true (mc (f0 true fk ty rm rs ag up dn (.sl .str ex)) x)), (23, .cells true (mw (f0 false fk' ty' rm' rs' ag' up' dn' (.sl .str ex)) y))]⟩
def to12 {R : Type} (K : Bool → Int → Int → St → St → Option R) (tm : Fr) (H : Heap) : Option R := match tm.get 8, tm.get 11, tm.get 12, H.get 22, H.get 23 with
  | .bool r, .int _ n, .int _ i, some (.cells _ cs), some (.cells _ ds) => match st4 (cs.drop 25), st4 (ds.drop 25) with
    | some x, some y => K r n i x y
    | _, _ => none
  | _, _, _, _, _ => none
def t12 {R : Type} (iF : Ou → Ou → Bool) (p : Fs) (w : Fw) (fk ty : Int) (rm : Bool) (rs ag up dn : Int) (ex : List Str) (fk' ty' : Int) (rm' : Bool) (rs' ag' up' dn' : Int) (l : List CallT.den) (exits : Bool) (code : Int) (x y : St) (now i : Int) (KN : Int → Int → St → St → Option R) (KX : Bool → Int → Int → St → St → Option R) : Option R :=
  (br (ilt i (Int.ofNat (List.length l))) (br (inb i (List.length l)) (br (inb i (List.length l)) (br (ieq (Int.tmod (@rd (Ty.pair (Ty.int .u8) (Ty.pair (Ty.int .i64)
    (Ty.int .u32))) l (Int.toNat i)).1 5) 0) (bnd (p.s ⟨fk, ty, rm, rs, ag, up, dn, (Nat.beq (List.length ex) 0)⟩ x (wrapK .i64 (now + (wrapK .i64 (@rd (Ty.pair (Ty.int
    .u8) (Ty.pair (Ty.int .i64) (Ty.int .u32))) l (Int.toNat i)).2.2)))) (fun a0 => (bnd (w.s ⟨fk', ty', rm', rs', ag', up', dn', (Nat.beq (List.length ex) 0)⟩ y (wrapK
    .i64 (now + (wrapK .i64 (@rd (Ty.pair (Ty.int .u8) (Ty.pair (Ty.int .i64) (Ty.int .u32))) l (Int.toNat i)).2.2)))) (fun a1 => (KN (wrapK .i64 (now + (wrapK .i64 (@rd
    (Ty.pair (Ty.int .u8) (Ty.pair (Ty.int .i64) (Ty.int .u32))) l (Int.toNat i)).2.2))) (wrapK .i64 (i + 1)) a0.2.2 a1.2.2))))) (br (ieq (Int.tmod (@rd (Ty.pair (Ty.int
    .u8) (Ty.pair (Ty.int .i64) (Ty.int .u32))) l (Int.toNat i)).1 5) 1) (bnd (p.t ⟨fk, ty, rm, rs, ag, up, dn, (Nat.beq (List.length ex) 0)⟩ x (wrapK .i64 (now + (wrapK
    .i64 (@rd (Ty.pair (Ty.int .u8) (Ty.pair (Ty.int .i64) (Ty.int .u32))) l (Int.toNat i)).2.2)))) (fun a2 => (bnd (w.t ⟨fk', ty', rm', rs', ag', up', dn', (Nat.beq
    (List.length ex) 0)⟩ y (wrapK .i64 (now + (wrapK .i64 (@rd (Ty.pair (Ty.int .u8) (Ty.pair (Ty.int .i64) (Ty.int .u32))) l (Int.toNat i)).2.2)))) (fun a3 => (br ((eqw
    a2.1.sp a2.1.sp) && ((eqw a2.1.ki a2.1.ki) && ((eqw a2.1.ag a2.1.ag) && ((ieq a2.1.r a2.1.r) && true)))) (br (iF a2.1 a3.1) (KN (wrapK .i64 (now + (wrapK .i64 (@rd
    (Ty.pair (Ty.int .u8) (Ty.pair (Ty.int .i64) (Ty.int .u32))) l (Int.toNat i)).2.2))) (wrapK .i64 (i + 1)) a2.2.2 a3.2) (KN (wrapK .i64 (now + (wrapK .i64 (@rd (Ty.pair
    (Ty.int .u8) (Ty.pair (Ty.int .i64) (Ty.int .u32))) l (Int.toNat i)).2.2))) (wrapK .i64 (i + 1)) a2.2.2 a3.2)) none))))) (br (ieq (Int.tmod (@rd (Ty.pair (Ty.int .u8)
    (Ty.pair (Ty.int .i64) (Ty.int .u32))) l (Int.toNat i)).1 5) 2) (bnd (p.x ⟨fk, ty, rm, rs, ag, up, dn, (Nat.beq (List.length ex) 0)⟩ x (@rd (Ty.pair (Ty.int .u8)
    (Ty.pair (Ty.int .i64) (Ty.int .u32))) l (Int.toNat i)).2.1 (wrapK .i64 (now + (wrapK .i64 (@rd (Ty.pair (Ty.int .u8) (Ty.pair (Ty.int .i64) (Ty.int .u32))) l
    (Int.toNat i)).2.2)))) (fun a4 => (br (ieq (@rd (Ty.pair (Ty.int .u8) (Ty.pair (Ty.int .i64) (Ty.int .u32))) l (Int.toNat i)).2.1 (@rd (Ty.pair (Ty.int .u8) (Ty.pair
    (Ty.int .i64) (Ty.int .u32))) l (Int.toNat i)).2.1) (br (ieq (wrapK .i64 (now + (wrapK .i64 (@rd (Ty.pair (Ty.int .u8) (Ty.pair (Ty.int .i64) (Ty.int .u32))) l
    (Int.toNat i)).2.2))) (wrapK .i64 (now + (wrapK .i64 (@rd (Ty.pair (Ty.int .u8) (Ty.pair (Ty.int .i64) (Ty.int .u32))) l (Int.toNat i)).2.2)))) (bnd (w.x ⟨fk', ty',
    rm', rs', ag', up', dn', (Nat.beq (List.length ex) 0)⟩ y (@rd (Ty.pair (Ty.int .u8) (Ty.pair (Ty.int .i64) (Ty.int .u32))) l (Int.toNat i)).2.1 (wrapK .i64 (now +
    (wrapK .i64 (@rd (Ty.pair (Ty.int .u8) (Ty.pair (Ty.int .i64) (Ty.int .u32))) l (Int.toNat i)).2.2)))) (fun a5 => (KN (wrapK .i64 (now + (wrapK .i64 (@rd (Ty.pair
    (Ty.int .u8) (Ty.pair (Ty.int .i64) (Ty.int .u32))) l (Int.toNat i)).2.2))) (wrapK .i64 (i + 1)) a4.2 a5.2))) none) none))) (br (ieq (Int.tmod (@rd (Ty.pair (Ty.int
    .u8) (Ty.pair (Ty.int .i64) (Ty.int .u32))) l (Int.toNat i)).1 5) 3) (bnd (p.k ⟨fk, ty, rm, rs, ag, up, dn, (Nat.beq (List.length ex) 0)⟩ x (wrapK .i64 (now + (wrapK
    .i64 (@rd (Ty.pair (Ty.int .u8) (Ty.pair (Ty.int .i64) (Ty.int .u32))) l (Int.toNat i)).2.2)))) (fun a6 => (bnd (w.k ⟨fk', ty', rm', rs', ag', up', dn', (Nat.beq
    (List.length ex) 0)⟩ y (wrapK .i64 (now + (wrapK .i64 (@rd (Ty.pair (Ty.int .u8) (Ty.pair (Ty.int .i64) (Ty.int .u32))) l (Int.toNat i)).2.2)))) (fun a7 => (KN (wrapK
    .i64 (now + (wrapK .i64 (@rd (Ty.pair (Ty.int .u8) (Ty.pair (Ty.int .i64) (Ty.int .u32))) l (Int.toNat i)).2.2))) (wrapK .i64 (i + 1)) a6.2 a7.2))))) (KN (wrapK .i64
    (now + (wrapK .i64 (@rd (Ty.pair (Ty.int .u8) (Ty.pair (Ty.int .i64) (Ty.int .u32))) l (Int.toNat i)).2.2))) (wrapK .i64 (i + 1)) x y))))) none) none) (KX false now i
    x y))
theorem t12_run {R : Type} (iF : Ou → Ou → Bool) (p : Fs) (w : Fw) (fk ty : Int) (rm : Bool) (rs ag up dn : Int) (ex : List Str) (fk' ty' : Int) (rm' : Bool) (rs' ag' up' dn' : Int) (l : List CallT.den) (exits : Bool) (code : Int) (x y : St) (now i : Int) (KN : Fr → Heap → Option R) (K : X → Fr → Heap → Option R) :
    roundL E (tabL (fnsT iF p w) []) 0 8 12 7 nm12 22 KN K (fr12 l exits code false now i) (hp12 fk ty rm rs ag up dn ex fk' ty' rm' rs' ag' up' dn' x y) =
      t12 iF p w fk ty rm rs ag up dn ex fk' ty' rm' rs' ag' up' dn' l exits code x y now i (fun n i x y => KN (fr12 l exits code false n i) (hp12 fk ty rm rs ag up dn ex fk' ty' rm' rs' ag' up' dn' x y)) (fun r n i x y => K (.exit 0) (fr12 l exits code r n i) (hp12 fk ty rm rs ag up dn ex fk' ty' rm' rs' ag' up' dn' x y)) := by kernel_rfl
theorem t12_bnd {R R' : Type} (iF : Ou → Ou → Bool) (p : Fs) (w : Fw) (fk ty : Int) (rm : Bool) (rs ag up dn : Int) (ex : List Str) (fk' ty' : Int) (rm' : Bool) (rs' ag' up' dn' : Int) (l : List CallT.den) (exits : Bool) (code : Int) (x y : St) (now i : Int) (KN : Int → Int → St → St → Option R) (KX : Bool → Int → Int → St → St → Option R) (k : R → Option R') :
    bnd (t12 iF p w fk ty rm rs ag up dn ex fk' ty' rm' rs' ag' up' dn' l exits code x y now i KN KX) k = t12 iF p w fk ty rm rs ag up dn ex fk' ty' rm' rs' ag' up' dn' l exits code x y now i (fun n i x y => bnd (KN n i x y) k) (fun r n i x y => bnd (KX r n i x y) k) := by
  simp only [t12, bnd_br, bnd_bnd, bnd_none]
def L12 (iF : Ou → Ou → Bool) (p : Fs) (w : Fw) (fk ty : Int) (rm : Bool) (rs ag up dn : Int) (ex : List Str) (fk' ty' : Int) (rm' : Bool) (rs' ag' up' dn' : Int) (l : List CallT.den) (exits : Bool) (code : Int) : Nat → St → St → Int → Int → Option (Bool × Int × Int × St × St)
  | 0, _, _, _, _ => none
  | v + 1, x, y, now, i => t12 iF p w fk ty rm rs ag up dn ex fk' ty' rm' rs' ag' up' dn' l exits code x y now i (fun n i x y => L12 iF p w fk ty rm rs ag up dn ex fk' ty' rm' rs' ag' up' dn' l exits code v x y n i) (fun r n i x y => some (r, n, i, x, y))
theorem run12 {R : Type} (iF : Ou → Ou → Bool) (p : Fs) (w : Fw) (fk ty : Int) (rm : Bool) (rs ag up dn : Int) (ex : List Str) (fk' ty' : Int) (rm' : Bool) (rs' ag' up' dn' : Int) (l : List CallT.den) (exits : Bool) (code : Int) (K : X → Fr → Heap → Option R) : ∀ (v : Nat) (x y : St) (now i : Int),
    runL E (tabL (fnsT iF p w) []) 0 8 12 7 nm12 22 K v (fr12 l exits code false now i) (hp12 fk ty rm rs ag up dn ex fk' ty' rm' rs' ag' up' dn' x y) = bnd (L12 iF p w fk ty rm rs ag up dn ex fk' ty' rm' rs' ag' up' dn' l exits code v x y now i) fun r => K (.exit 0) (fr12 l exits code r.1 r.2.1 r.2.2.1) (hp12 fk ty rm rs ag up dn ex fk' ty' rm' rs' ag' up' dn' r.2.2.2.1 r.2.2.2.2)
  | 0, _, _, _, _ => rfl
  | v + 1, x, y, now, i => by
    rw [runL_succ, t12_run, L12, t12_bnd]
    simp only [run12 iF p w fk ty rm rs ag up dn ex fk' ty' rm' rs' ag' up' dn' l exits code K v, bnd_some]

def l12 (L : Fc → Fc → List CallT.den → Bool → Int → St → St → Int → Int → Option R9) : LoopC := fun R tm H K => bif Nat.beq H.next 22 then (match nm12 22 tm H with
  | some ([(1, lv), (2, .bool exits), (3, .int .i64 code), (8, .bool false), (9, .ptr 22 0), (10, .ptr 23 0), (11, .int .i64 now), (12, .int .i64 i)], ⟨24, [(22, .cells true cm), (23, .cells true cw)]⟩) => match asCalls lv, decC cm, decW cw with
    | some l, some a, some c => bnd (L a.1 c.1 l exits code a.2 c.2 now i) fun r => K (.exit 0) (fr12 l exits code r.1 r.2.1 r.2.2.1) (hp12 a.1.fk a.1.ty a.1.rm a.1.rs a.1.ag a.1.up a.1.dn a.1.ex c.1.fk c.1.ty c.1.rm c.1.rs c.1.ag c.1.up c.1.dn r.2.2.2.1 r.2.2.2.2)
    | _, _, _ => none
  | _ => none) else none
def L12e (f g : Fc) (l : List CallT.den) (exits : Bool) (code : Int) (x y : St) (now i : Int) : Option R9 := if f.ex = g.ex then
    L12 isF pF wF f.fk f.ty f.rm f.rs f.ag f.up f.dn f.ex g.fk g.ty g.rm g.rs g.ag g.up g.dn l exits code (l.length + 1) x y now i
  else none
theorem l12_ok : LpOk Try.prog 12 7 (l12 L12e) := by
  refine lp_ok (T := tabL (fnsT isF pF wF) []) (u := 0) (d := 8) (nm := nm12) E_ok (tabL_ok fnsT_ok (fun _ h => by cases h)) (normG_ok ..) (by kernel_rfl) (by kernel_rfl) fun R tm H K r h => ?_
  unfold l12 at h
  cases hb : Nat.beq H.next 22 with
  | false => rw [hb] at h; cases h
  | true =>
    rw [hb] at h
    rw [Nat.eq_of_beq_eq_true hb]
    simp only [cond_true] at h
    split at h
    · rename_i lv exits code now i cm cw hn
      split at h
      · rename_i l a c e1 e2 e3
        obtain ⟨f, x⟩ := a
        obtain ⟨g, y⟩ := c
        rw [asCalls_eq e1, decC_eq e2, decW_eq e3] at hn
        refine ⟨l.length + 1, _, _, hn, ?_⟩
        dsimp only at h
        unfold L12e at h
        by_cases hex : f.ex = g.ex
        · rw [if_pos hex] at h
          have := run12 isF pF wF f.fk f.ty f.rm f.rs f.ag f.up f.dn f.ex g.fk g.ty g.rm g.rs g.ag g.up g.dn l exits code K (l.length + 1) x y now i
          have e : runL E (tabL (fnsT isF pF wF) []) 0 8 12 7 nm12 22 K (l.length + 1) (fr12 l exits code false now i) (hp12 f.fk f.ty f.rm f.rs f.ag f.up f.dn f.ex g.fk g.ty g.rm g.rs g.ag g.up g.dn x y) = some r := by
            rw [this]
            exact h
          refine Eq.trans ?_ e
          unfold fr12 hp12 Fc.cells
          rw [hex]
        · rw [if_neg hex] at h
          cases h
      · cases h
    · cases h

def f12 {R : Type} (L : Fc → Fc → List CallT.den → Bool → Int → St → St → Int → Int → Option R9) (iF : Ou → Ou → Bool) (p : Fs) (w : Fw) (fk ty : Int) (rm : Bool) (rs ag up dn : Int) (ex : List Str) (l : List CallT.den) (exits : Bool) (code : Int) (K : Bool → Option R) : Option R :=
  (br (! (Nat.ble 61 (List.length l))) (br (! (br (br (br (br (br (br (ile 1 fk) (ile fk 3) false) (br (! (ieq fk 1)) true (br (ile 1 ty) (ile ty 3) false)) false) (ile 0
    up) false) (ile 0 dn) false) (ile 0 ag) false) (Nat.ble (List.length ex) 64) false)) (K true) (br ((ieq ty ty) && ((eqw rm rm) && ((ieq rs rs) && ((ieq ag ag) && ((ieq
    up up) && ((ieq dn dn) && ((sameL' (Ty.same Ty.str) ex ex) && true))))))) (bnd (L ⟨fk, ty, rm, rs, ag, up, dn, ex⟩ ⟨(wrapK .i64 fk), (wrapK .i64 ty), rm, (wrapK .i64
    rs), ag, up, dn, ex⟩ l exits code ⟨1, false, 9223372036854775807, false⟩ ⟨1, false, 9223372036854775807, false⟩ 0 0) (fun r0 => (bnd (p.t ⟨fk, ty, rm, rs, ag, up, dn,
    (Nat.beq (List.length ex) 0)⟩ r0.2.2.2.1 r0.2.1) (fun a1 => (br (! (ieq (br a1.2.1 0 4) 0)) (K false) (br (! (ieq a1.1.r 0)) (br (ieq a1.1.r 1) (br (ieq a1.2.2.s 1)
    (br (! a1.2.2.b) (br (ieq a1.2.2.d 9223372036854775807) (K true) (K false)) (K false)) (K false)) (K false)) (br (! (! (ieq a1.2.2.s 4))) (br (! a1.2.2.b) (K false)
    (br exits (bnd (p.x ⟨fk, ty, rm, rs, ag, up, dn, (Nat.beq (List.length ex) 0)⟩ a1.2.2 code r0.2.1) (fun a2 => (br exits (br ((Decidable.decide (Eq a2.1.sp false)) &&
    ((Decidable.decide (Eq a2.1.ki false)) && ((Decidable.decide (Eq a2.1.ag false)) && ((ieq a2.1.r 1) && true)))) (br (ieq a2.2.s 1) (br (! a2.2.b) (br (ieq a2.2.d
    9223372036854775807) (bnd (p.k ⟨fk, ty, rm, rs, ag, up, dn, (Nat.beq (List.length ex) 0)⟩ a2.2 4611686018427387904) (fun a3 => (br ((Decidable.decide (Eq a3.1.sp
    false)) && ((Decidable.decide (Eq a3.1.ki false)) && ((Decidable.decide (Eq a3.1.ag false)) && ((ieq a3.1.r 0) && true)))) (K true) (K false)))) (K false)) (K false))
    (br (! exits) (br ((Decidable.decide (Eq a2.1.sp false)) && ((Decidable.decide (Eq a2.1.ki true)) && ((Decidable.decide (Eq a2.1.ag false)) && ((ieq a2.1.r 5) &&
    true)))) (br (ieq a2.2.s 5) (br (! a2.2.b) (br (ieq a2.2.d 9223372036854775807) (bnd (p.k ⟨fk, ty, rm, rs, ag, up, dn, (Nat.beq (List.length ex) 0)⟩ a2.2
    4611686018427387904) (fun a4 => (br ((Decidable.decide (Eq a4.1.sp false)) && ((Decidable.decide (Eq a4.1.ki false)) && ((Decidable.decide (Eq a4.1.ag false)) && ((ieq
    a4.1.r 0) && true)))) (K true) (K false)))) (K false)) (K false)) (K false)) (K false)) (K false))) (br (! exits) (br ((Decidable.decide (Eq a2.1.sp false)) &&
    ((Decidable.decide (Eq a2.1.ki true)) && ((Decidable.decide (Eq a2.1.ag false)) && ((ieq a2.1.r 5) && true)))) (br (ieq a2.2.s 5) (br (! a2.2.b) (br (ieq a2.2.d
    9223372036854775807) (bnd (p.k ⟨fk, ty, rm, rs, ag, up, dn, (Nat.beq (List.length ex) 0)⟩ a2.2 4611686018427387904) (fun a5 => (br ((Decidable.decide (Eq a5.1.sp
    false)) && ((Decidable.decide (Eq a5.1.ki false)) && ((Decidable.decide (Eq a5.1.ag false)) && ((ieq a5.1.r 0) && true)))) (K true) (K false)))) (K false)) (K false))
    (K false)) (K false)) (K false))) (br (! exits) (br ((Decidable.decide (Eq a2.1.sp false)) && ((Decidable.decide (Eq a2.1.ki true)) && ((Decidable.decide (Eq a2.1.ag
    false)) && ((ieq a2.1.r 5) && true)))) (br (ieq a2.2.s 5) (br (! a2.2.b) (br (ieq a2.2.d 9223372036854775807) (bnd (p.k ⟨fk, ty, rm, rs, ag, up, dn, (Nat.beq
    (List.length ex) 0)⟩ a2.2 4611686018427387904) (fun a6 => (br ((Decidable.decide (Eq a6.1.sp false)) && ((Decidable.decide (Eq a6.1.ki false)) && ((Decidable.decide
    (Eq a6.1.ag false)) && ((ieq a6.1.r 0) && true)))) (K true) (K false)))) (K false)) (K false)) (K false)) (K false)) (K false))))) (br (ieq a1.2.2.d
    9223372036854775807) (K true) (bnd (p.k ⟨fk, ty, rm, rs, ag, up, dn, (Nat.beq (List.length ex) 0)⟩ a1.2.2 a1.2.2.d) (fun a7 => (br exits (br ((Decidable.decide (Eq
    a7.1.sp false)) && ((Decidable.decide (Eq a7.1.ki false)) && ((Decidable.decide (Eq a7.1.ag false)) && ((ieq a7.1.r 1) && true)))) (br (ieq a7.2.s 1) (br (! a7.2.b)
    (br (ieq a7.2.d 9223372036854775807) (bnd (p.k ⟨fk, ty, rm, rs, ag, up, dn, (Nat.beq (List.length ex) 0)⟩ a7.2 4611686018427387904) (fun a8 => (br ((Decidable.decide
    (Eq a8.1.sp false)) && ((Decidable.decide (Eq a8.1.ki false)) && ((Decidable.decide (Eq a8.1.ag false)) && ((ieq a8.1.r 0) && true)))) (K true) (K false)))) (K false))
    (K false)) (br (! exits) (br ((Decidable.decide (Eq a7.1.sp false)) && ((Decidable.decide (Eq a7.1.ki true)) && ((Decidable.decide (Eq a7.1.ag false)) && ((ieq a7.1.r
    5) && true)))) (br (ieq a7.2.s 5) (br (! a7.2.b) (br (ieq a7.2.d 9223372036854775807) (bnd (p.k ⟨fk, ty, rm, rs, ag, up, dn, (Nat.beq (List.length ex) 0)⟩ a7.2
    4611686018427387904) (fun a9 => (br ((Decidable.decide (Eq a9.1.sp false)) && ((Decidable.decide (Eq a9.1.ki false)) && ((Decidable.decide (Eq a9.1.ag false)) && ((ieq
    a9.1.r 0) && true)))) (K true) (K false)))) (K false)) (K false)) (K false)) (K false)) (K false))) (br (! exits) (br ((Decidable.decide (Eq a7.1.sp false)) &&
    ((Decidable.decide (Eq a7.1.ki true)) && ((Decidable.decide (Eq a7.1.ag false)) && ((ieq a7.1.r 5) && true)))) (br (ieq a7.2.s 5) (br (! a7.2.b) (br (ieq a7.2.d
    9223372036854775807) (bnd (p.k ⟨fk, ty, rm, rs, ag, up, dn, (Nat.beq (List.length ex) 0)⟩ a7.2 4611686018427387904) (fun a10 => (br ((Decidable.decide (Eq a10.1.sp
    false)) && ((Decidable.decide (Eq a10.1.ki false)) && ((Decidable.decide (Eq a10.1.ag false)) && ((ieq a10.1.r 0) && true)))) (K true) (K false)))) (K false)) (K
    false)) (K false)) (K false)) (K false))) (br (! exits) (br ((Decidable.decide (Eq a7.1.sp false)) && ((Decidable.decide (Eq a7.1.ki true)) && ((Decidable.decide (Eq
    a7.1.ag false)) && ((ieq a7.1.r 5) && true)))) (br (ieq a7.2.s 5) (br (! a7.2.b) (br (ieq a7.2.d 9223372036854775807) (bnd (p.k ⟨fk, ty, rm, rs, ag, up, dn, (Nat.beq
    (List.length ex) 0)⟩ a7.2 4611686018427387904) (fun a11 => (br ((Decidable.decide (Eq a11.1.sp false)) && ((Decidable.decide (Eq a11.1.ki false)) && ((Decidable.decide
    (Eq a11.1.ag false)) && ((ieq a11.1.r 0) && true)))) (K true) (K false)))) (K false)) (K false)) (K false)) (K false)) (K false)))))))) (K false)))))))) none)) (K
    true))
theorem f12_eq {R : Type} (L : Fc → Fc → List CallT.den → Bool → Int → St → St → Int → Int → Option R9) (iF : Ou → Ou → Bool) (p : Fs) (w : Fw) (fk ty : Int) (rm : Bool) (rs ag up dn : Int) (ex : List Str) (l : List CallT.den) (exits : Bool) (code : Int) (K : Bool → Option R) : viF E (tabL (fnsT iF p w) [(12, 7, l12 L)]) 2 8 12 [.agg (f0 true fk ty rm rs ag up dn (.sl .str ex)), .sl CallT l, .bool exits, .int .i64 code] ⟨0, []⟩ (fun v H => match v with | .bool b => K b | _ => none) = f12 L iF p w fk ty rm rs ag up dn ex l exits code K := by kernel_rfl

theorem round12 {R : Type} {fk ty : Int} {rm : Bool} {rs ag up dn : Int} {ex : List Str} {l : List CallT.den} {exits : Bool} {ecode : Int} {x : St} {now i : Int} (KN : Int → Int → St → St → Option R) (KX : Bool → Int → Int → St → St → Option R)
    (hf : InF ⟨fk, ty, rm, rs, ag, up, dn, Nat.beq ex.length 0⟩) (hx : Inv x) (h0 : 0 ≤ i) (hi : i < l.length) (hk : 0 ≤ (rd l i.toNat).1) :
    ∃ x', Inv x' ∧ t12 isF pF wF fk ty rm rs ag up dn ex fk ty rm rs ag up dn l exits ecode x x now i KN KX = KN (wrapK .i64 (now + wrapK .i64 (rd l i.toNat).2.2)) (wrapK .i64 (i + 1)) x' x' := by
  generalize hfi : (⟨fk, ty, rm, rs, ag, up, dn, Nat.beq ex.length 0⟩ : Fi) = f at hf
  have hn := wrap_in (now + wrapK .i64 (rd l i.toNat).2.2)
  generalize hnow : wrapK .i64 (now + wrapK .i64 (rd l i.toNat).2.2) = n at hn
  generalize hcode : (rd l i.toNat).2.1 = code
  have e1 : ilt i (l.length : Int) = true := by rw [ilt_eq]; exact decide_eq_true hi
  have e2 : inb i l.length = true := by simp only [inb, ile_eq, ilt_eq, decide_eq_true h0, decide_eq_true hi, Bool.and_self]
  obtain ⟨⟨s1, s2⟩, ⟨t1, t2⟩, ⟨x1, x2⟩, ⟨k1, k2⟩⟩ := all_is (code := code) hf hn hx
  obtain ⟨sr, si⟩ := start_keeps hf hn hx
  obtain ⟨tr, ti, -⟩ := stop_keeps hf hn hx
  obtain ⟨xr, xi⟩ := exit_keeps (code := code) hf hn hx
  obtain ⟨kr, ki⟩ := tick_keeps hf hn hx
  have hk5 : Int.tmod (rd l i.toNat).1 5 = 0 ∨ Int.tmod (rd l i.toNat).1 5 = 1 ∨ Int.tmod (rd l i.toNat).1 5 = 2 ∨ Int.tmod (rd l i.toNat).1 5 = 3 ∨ Int.tmod (rd l i.toNat).1 5 = 4 := by
    rw [Int.tmod_eq_emod_of_nonneg hk]; omega
  rcases hk5 with h | h | h | h | h
  · refine ⟨_, si, ?_⟩
    simp only [t12, pF, wF, hfi, hnow, hcode, Int.ofNat_eq_natCast, e1, e2, h, s1, s2, bnd_some, br_t, br_f, isF_self sr, ieq_self, eqw_self, decide_true, show ieq 0 4 = false from rfl, show ieq 0 0 = true from rfl]
  · refine ⟨_, ti, ?_⟩
    simp only [t12, pF, wF, hfi, hnow, hcode, Int.ofNat_eq_natCast, e1, e2, h, t1, t2, bnd_some, br_t, br_f, isF_self tr, ieq_self, eqw_self, decide_true, show ieq 1 4 = false from rfl, show ieq 1 0 = false from rfl, show ieq 1 1 = true from rfl, show ieq 0 0 = true from rfl, Bool.and_self, Bool.not_true]
  · refine ⟨_, xi, ?_⟩
    simp only [t12, pF, wF, hfi, hnow, hcode, Int.ofNat_eq_natCast, e1, e2, h, x1, x2, bnd_some, br_t, br_f, isF_self xr, ieq_self, eqw_self, decide_true, show ieq 2 4 = false from rfl, show ieq 2 0 = false from rfl, show ieq 2 1 = false from rfl, show ieq 2 2 = true from rfl, Bool.and_self, Bool.not_true]
  · refine ⟨_, ki, ?_⟩
    simp only [t12, pF, wF, hfi, hnow, hcode, Int.ofNat_eq_natCast, e1, e2, h, k1, k2, bnd_some, br_t, br_f, isF_self kr, ieq_self, eqw_self, decide_true, show ieq 3 4 = false from rfl, show ieq 3 0 = false from rfl, show ieq 3 1 = false from rfl, show ieq 3 2 = false from rfl, show ieq 3 3 = true from rfl, Bool.and_self, Bool.not_true]
  · refine ⟨_, hx, ?_⟩
    simp only [t12, pF, wF, hfi, hnow, hcode, Int.ofNat_eq_natCast, e1, e2, h, bnd_some, br_t, br_f, ieq_self, eqw_self, decide_true, show ieq 4 0 = false from rfl, show ieq 4 1 = false from rfl, show ieq 4 2 = false from rfl, show ieq 4 3 = false from rfl, Bool.and_self, Bool.not_true]

theorem L12_some {f : Fc} {l : List CallT.den} {exits : Bool} {code : Int} (hf : InF f.fi) (hl : chkL l = true) (hn : l.length ≤ 60) : ∀ (v : Nat) (x : St) (now i : Int), Inv x → 0 ≤ now ∧ now ≤ i * 4294967296 → 0 ≤ i → i ≤ l.length → (l.length : Int) - i < v →
    ∃ n x', Inv x' ∧ (0 ≤ n ∧ n ≤ 257698037760) ∧ L12 isF pF wF f.fk f.ty f.rm f.rs f.ag f.up f.dn f.ex f.fk f.ty f.rm f.rs f.ag f.up f.dn l exits code v x x now i = some (false, n, (l.length : Int), x', x')
  | 0, x, now, i, hx, _, h0, hi, hv => by omega
  | v + 1, x, now, i, hx, hnw, h0, hi, hv => by
    rw [L12]
    by_cases h : i < l.length
    · obtain ⟨x', hx', e⟩ := round12 (fun n i x y => L12 isF pF wF f.fk f.ty f.rm f.rs f.ag f.up f.dn f.ex f.fk f.ty f.rm f.rs f.ag f.up f.dn l exits code v x y n i) (fun r n i x y => some (r, n, i, x, y)) (exits := exits) (ecode := code) (now := now) (rm := f.rm) (fk := f.fk) (ty := f.ty) (rs := f.rs) hf hx h0 h (chkL_get hl h0 h)
      rw [e]
      have hw : wrapK .i64 (i + 1) = i + 1 := by rw [wrap64]; omega
      rw [hw]
      have hlat : ∃ lat : Int, lat = (rd l i.toNat).2.2 ∧ 0 ≤ lat ∧ lat ≤ 4294967295 := ⟨_, rfl, chkL_lat hl h0 h⟩
      obtain ⟨lat, el, l1, l2⟩ := hlat
      rw [← el]
      have e3 : wrapK .i64 lat = lat := by rw [wrap64]; omega
      have e4 : wrapK .i64 (now + lat) = now + lat := by rw [wrap64]; omega
      rw [e3, e4]
      exact L12_some hf hl hn v x' _ (i + 1) hx' (by omega) (by omega) (by omega) (by omega)
    · have hi' : i = l.length := by omega
      have e1 : ilt i (l.length : Int) = false := by rw [ilt_eq]; exact decide_eq_false h
      refine ⟨now, x, hx, ⟨hnw.1, by omega⟩, ?_⟩
      unfold t12
      rw [Int.ofNat_eq_natCast, e1, ← hi']
      rfl

end Go.VI.Svc
