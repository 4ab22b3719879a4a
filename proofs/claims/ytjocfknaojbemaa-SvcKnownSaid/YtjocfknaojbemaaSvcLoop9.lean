/-
  SvcPlays: its loop's contract, and the function's; true of files that are ready.
-/
import Derived.Test.YtjocfknaojbemaaSvcLaw9
namespace Go.VI.Svc
open Go.Proofs

/-- A file, where nothing but the service is told. -/
structure Fc where
  fk : Int
  ty : Int
  rm : Bool
  rs : Int
  ag : Int
  up : Int
  dn : Int
  ex : List Str
def Fc.cells (f : Fc) (c : Bool) : List A := f0 c f.fk f.ty f.rm f.rs f.ag f.up f.dn (.sl .str f.ex)
def Fc.fi (f : Fc) : Fi := ⟨f.fk, f.ty, f.rm, f.rs, f.ag, f.up, f.dn, Nat.beq f.ex.length 0⟩
def decC : List A → Option (Fc × St)
  | [.int .u8 fk, .nils, .nils, .nils, .nils, .nils, .nils, .nils, .bool false, .int .i64 0, .int .i64 0, .int .u8 ty, .bool rm, .int .u8 rs, .int .i64 ag, .int .i64 up, .int .i64 dn, .sl .str ex, .nils, .int .i64 0, .int .i64 0, .bool false, .bool false, .bool false, .str [], .int .u8 s, .bool b, .int .i64 d, .bool lt] => some (⟨fk, ty, rm, rs, ag, up, dn, ex⟩, ⟨s, b, d, lt⟩)
  | _ => none
def decW : List A → Option (Fc × St)
  | [.int .i64 fk, .nils, .nils, .nils, .nils, .nils, .nils, .nils, .bool false, .int .i64 0, .int .i64 0, .int .i64 ty, .bool rm, .int .i64 rs, .int .i64 ag, .int .i64 up, .int .i64 dn, .sl .str ex, .nils, .int .i64 0, .int .i64 0, .bool false, .bool false, .bool false, .str [], .int .i64 s, .bool b, .int .i64 d, .bool lt] => some (⟨fk, ty, rm, rs, ag, up, dn, ex⟩, ⟨s, b, d, lt⟩)
  | _ => none
theorem decC_eq {cs : List A} {f : Fc} {x : St} (h : decC cs = some (f, x)) : cs = mc (f.cells true) x := by
  unfold decC at h
  split at h
  · cases h; rfl
  · cases h
theorem decW_eq {cs : List A} {f : Fc} {x : St} (h : decW cs = some (f, x)) : cs = mw (f.cells false) x := by
  unfold decW at h
  split at h
  · cases h; rfl
  · cases h
def asCalls : A → Option (List CallT.den)
  | .sl t l => if h : t = CallT then some (h ▸ l) else none
  | _ => none
theorem asCalls_eq {a : A} {l : List CallT.den} (h : asCalls a = some l) : a = .sl CallT l := by
  unfold asCalls at h
  split at h
  · split at h
    · rename_i e
      subst e
      cases h
      rfl
    · cases h
  · cases h

abbrev R9 := Bool × Int × Int × St × St
def l9 (L : Fc → Fc → List CallT.den → St → St → Int → Int → Option R9) : LoopC := fun R tm H K => bif Nat.beq H.next 29 then (match nm9 29 tm H with
  | some ([(1, lv), (4, .bool false), (5, .ptr 29 0), (6, .ptr 30 0), (7, .int .i64 now), (8, .int .i64 i)], ⟨31, [(29, .cells true cm), (30, .cells true cw)]⟩) => match asCalls lv, decC cm, decW cw with
    | some l, some a, some c => bnd (L a.1 c.1 l a.2 c.2 now i) fun r => K (.exit 0) (fr9 l r.1 r.2.1 r.2.2.1) (hp9 a.1.fk a.1.ty a.1.rm a.1.rs a.1.ag a.1.up a.1.dn a.1.ex c.1.fk c.1.ty c.1.rm c.1.rs c.1.ag c.1.up c.1.dn r.2.2.2.1 r.2.2.2.2)
    | _, _, _ => none
  | _ => none) else none
/-- The loop, as far as it ends behind all calls. -/
def L9e (f g : Fc) (l : List CallT.den) (x y : St) (now i : Int) : Option R9 := if f.ex = g.ex then
    match L9 isF pF wF f.fk f.ty f.rm f.rs f.ag f.up f.dn f.ex g.fk g.ty g.rm g.rs g.ag g.up g.dn l (l.length + 1) x y now i with
    | some (true, r) => some r
    | _ => none
  else none
theorem l9_ok : LpOk Try.prog 9 6 (l9 L9e) := by
  refine lp_ok (T := tabL (fnsT isF pF wF) []) (u := 0) (d := 8) (nm := nm9) E_ok (tabL_ok fnsT_ok (fun _ h => by cases h)) (normG_ok ..) (by kernel_rfl) (by kernel_rfl) fun R tm H K r h => ?_
  unfold l9 at h
  cases hb : Nat.beq H.next 29 with
  | false => rw [hb] at h; cases h
  | true =>
    rw [hb] at h
    rw [Nat.eq_of_beq_eq_true hb]
    simp only [cond_true] at h
    split at h
    · rename_i lv now i cm cw hn
      split at h
      · rename_i l a c e1 e2 e3
        obtain ⟨f, x⟩ := a
        obtain ⟨g, y⟩ := c
        rw [asCalls_eq e1, decC_eq e2, decW_eq e3] at hn
        refine ⟨l.length + 1, _, _, hn, ?_⟩
        dsimp only at h
        unfold L9e at h
        split at h
        · rename_i hex
          have := run9 isF pF wF f.fk f.ty f.rm f.rs f.ag f.up f.dn f.ex g.fk g.ty g.rm g.rs g.ag g.up g.dn l K (l.length + 1) x y now i
          generalize L9 isF pF wF f.fk f.ty f.rm f.rs f.ag f.up f.dn f.ex g.fk g.ty g.rm g.rs g.ag g.up g.dn l (l.length + 1) x y now i = z at h this
          have e : runL E (tabL (fnsT isF pF wF) []) 0 8 9 6 nm9 29 K (l.length + 1) (fr9 l false now i) (hp9 f.fk f.ty f.rm f.rs f.ag f.up f.dn f.ex g.fk g.ty g.rm g.rs g.ag g.up g.dn x y) = some r := by
            rw [this]
            match z, h with
            | some (true, q), h =>
              simp only [bnd_some, cond_true] at h ⊢
              exact h
          refine Eq.trans ?_ e
          unfold fr9 hp9 Fc.cells
          rw [hex]
        · cases h
      · cases h
    · cases h

def f9 {R : Type} (L : Fc → Fc → List CallT.den → St → St → Int → Int → Option R9) (iF : Ou → Ou → Bool) (p : Fs) (w : Fw) (fk ty : Int) (rm : Bool) (rs ag up dn : Int) (ex : List Str) (l : List CallT.den) (K : Bool → Option R) : Option R :=
  (br (! (Nat.ble 101 (List.length l))) (br (! (br (br (br (br (br (br (ile 1 fk) (ile fk 3) false) (br (! (ieq fk 1)) true (br (ile 1 ty) (ile ty 3) false)) false) (ile 0
    up) false) (ile 0 dn) false) (ile 0 ag) false) (Nat.ble (List.length ex) 64) false)) (K true) (br ((ieq fk fk) && ((ieq ty ty) && ((eqw rm rm) && ((ieq rs rs) && ((ieq
    ag ag) && ((ieq up up) && ((ieq dn dn) && ((sameL' (Ty.same Ty.str) ex ex) && true)))))))) (br ((ieq ty ty) && ((eqw rm rm) && ((ieq rs rs) && ((ieq ag ag) && ((ieq up
    up) && ((ieq dn dn) && ((sameL' (Ty.same Ty.str) ex ex) && true))))))) (bnd (L ⟨fk, ty, rm, rs, ag, up, dn, ex⟩ ⟨(wrapK .i64 fk), (wrapK .i64 ty), rm, (wrapK .i64 rs),
    ag, up, dn, ex⟩ l ⟨1, false, 9223372036854775807, false⟩ ⟨1, false, 9223372036854775807, false⟩ 0 0) (fun r0 => (K true))) none) none)) (K true))
theorem f9_eq {R : Type} (L : Fc → Fc → List CallT.den → St → St → Int → Int → Option R9) (iF : Ou → Ou → Bool) (p : Fs) (w : Fw) (fk ty : Int) (rm : Bool) (rs ag up dn : Int) (ex : List Str) (l : List CallT.den) (K : Bool → Option R) : viF E (tabL (fnsT iF p w) [(9, 6, l9 L)]) 2 8 9 [.agg (f0 true fk ty rm rs ag up dn (.sl .str ex)), .sl CallT l] ⟨0, []⟩ (fun v H => match v with | .bool b => K b | _ => none) = f9 L iF p w fk ty rm rs ag up dn ex l K := by kernel_rfl

end Go.VI.Svc
