/-
  Contracts of the machines' methods, the program's and the document's, over the machine's block.
-/
import Derived.Test.YtjocfknaojbemaaSvcLater
import Derived.Test.YtjocfknaojbemaaVITab
namespace Go.VI.Svc
open Go.Proofs

theorem ieq_self (n : Int) : ieq n n = true := by rw [ieq_eq]; simp

/-- A function of two numbers, as a contract. -/
def fnTE2 (f : Int → Int → Int) : TE := fun _ xs H k => match xs with
  | [.int .i64 t, .int .i64 s] => k (.int .i64 (f t s)) H
  | _ => none
noncomputable def T3 (lv lw : Int → Int → Int) : Tab := tab [(21, worksTE), (51, fnTE2 lv), (80, fnTE2 lw)]
theorem T3_ok : TabOk Try.prog (T3 laterV laterW) := tab_ok fun p hp => by
  simp only [List.mem_cons, List.not_mem_nil, or_false] at hp
  rcases hp with rfl | rfl | rfl
  · exact works_ok
  · exact later_ok
  · exact laterW_ok

structure St where
  s : Int
  b : Bool
  d : Int
  lt : Bool
structure Ou where
  sp : Bool
  ki : Bool
  ag : Bool
  r : Int
/-- What a machine's file says. -/
structure Fi where
  fk : Int
  ty : Int
  rm : Bool
  rs : Int
  ag : Int
  up : Int
  dn : Int
  ne : Bool
def noEx : A → Option Bool
  | .sl .str xs => some (Nat.beq xs.length 0)
  | .nils => some true
  | _ => none

/-- A file's cells: the program's, the document's. -/
def fc (a1 a2 a3 a4 a5 a6 a7 a8 a9 a10 a18 a19 a20 a21 a22 a23 a24 : A) (fk ty : Int) (rm : Bool) (rs ag up dn : Int) (ex : A) : List A :=
  [.int .u8 fk, a1, a2, a3, a4, a5, a6, a7, a8, a9, a10, .int .u8 ty, .bool rm, .int .u8 rs, .int .i64 ag, .int .i64 up, .int .i64 dn, ex, a18, a19, a20, a21, a22, a23, a24]
def fw (a1 a2 a3 a4 a5 a6 a7 a8 a9 a10 a18 a19 a20 a21 a22 a23 a24 : A) (fk ty : Int) (rm : Bool) (rs ag up dn : Int) (ex : A) : List A :=
  [.int .i64 fk, a1, a2, a3, a4, a5, a6, a7, a8, a9, a10, .int .i64 ty, .bool rm, .int .i64 rs, .int .i64 ag, .int .i64 up, .int .i64 dn, ex, a18, a19, a20, a21, a22, a23, a24]
def mc (f : List A) (x : St) : List A := f ++ [.int .u8 x.s, .bool x.b, .int .i64 x.d, .bool x.lt]
def mw (f : List A) (x : St) : List A := f ++ [.int .i64 x.s, .bool x.b, .int .i64 x.d, .bool x.lt]
def outC (o : Ou) : A := .agg [.bool o.sp, .bool o.ki, .bool o.ag, .int .u8 o.r]
def outW (o : Ou) : A := .agg [.bool o.sp, .bool o.ki, .bool o.ag, .int .i64 o.r]
def eC (e : Bool) : A := .int .i64 (br e 0 4)

theorem pure_app {l m : List A} (h : pureL l = true) (k : pureL m = true) : pureL (l ++ m) = true := VR.shift.pure_app h k

/-- The machine: one step of each kind, by the document. -/
def startT {X : Type} (lv : Int → Int → Int) (f : Fi) (x : St) (now : Int) (K : Ou → Bool → St → X) : X :=
  br (ieq x.s 4) (K ⟨false, false, false, 0⟩ false x) (br (ieq x.s 2) (K ⟨false, false, false, 0⟩ true x) (br (ieq x.s 3) (K ⟨false, false, false, 1⟩ true x)
    (br (br (!ieq f.fk 1) true (br (ieq f.ty 2) f.ne false)) (K ⟨false, false, false, 1⟩ true ⟨3, x.b, 9223372036854775807, false⟩)
      (br (ieq f.ty 1) (K ⟨true, false, false, 1⟩ true ⟨3, true, 9223372036854775807, false⟩)
        (br (ieq f.ty 2) (K ⟨true, false, false, 0⟩ true ⟨2, true, lv now f.up, false⟩) (K ⟨true, false, false, 0⟩ true ⟨2, true, now, false⟩))))))
def stopT {X : Type} (lv : Int → Int → Int) (f : Fi) (x : St) (now : Int) (K : Ou → Bool → St → X) : X :=
  br (ieq x.s 4) (K ⟨false, false, false, 0⟩ true ⟨x.s, x.b, x.d, false⟩) (br (!x.b) (K ⟨false, false, false, 1⟩ true ⟨1, x.b, 9223372036854775807, false⟩) (K ⟨false, true, false, 0⟩ true ⟨4, x.b, lv now f.dn, false⟩))
def againB (rs code : Int) : Bool := br (br (ieq rs 2) true (br (ieq rs 3) (ieq code 0) false)) true (br (ieq rs 4) (!ieq code 0) false)
def endsT {X : Type} (lv : Int → Int → Int) (f : Fi) (code now : Int) (o : Ou) (K : Ou → St → X) : X :=
  br (!ieq code 0) (br (againB f.rs code) (K o ⟨5, false, lv now f.ag, false⟩) (K o ⟨5, false, 9223372036854775807, false⟩)) (br (againB f.rs code) (K o ⟨1, false, lv now f.ag, false⟩) (K o ⟨1, false, 9223372036854775807, false⟩))
def exitT {X : Type} (lv : Int → Int → Int) (f : Fi) (x : St) (code now : Int) (K : Ou → St → X) : X :=
  br (!x.b) (K ⟨false, false, false, 0⟩ x)
    (br (ieq x.s 2) (br (br (ieq f.ty 2) (ieq code 0) false) (br f.rm (K ⟨false, false, false, 1⟩ ⟨3, false, 9223372036854775807, false⟩) (K ⟨false, false, false, 1⟩ ⟨1, false, 9223372036854775807, false⟩)) (endsT lv f code now ⟨false, false, false, 2⟩ K))
      (br (ieq x.s 3) (endsT lv f code now ⟨false, false, false, 0⟩ K) (br x.lt (K ⟨false, false, false, 0⟩ ⟨5, false, 9223372036854775807, false⟩) (K ⟨false, false, false, 1⟩ ⟨1, false, 9223372036854775807, false⟩))))
def tickT {X : Type} (lv : Int → Int → Int) (f : Fi) (x : St) (now : Int) (K : Ou → St → X) : X :=
  br (br (ieq x.d 9223372036854775807) true (ilt now x.d)) (K ⟨false, false, false, 0⟩ x)
    (br (ieq x.s 2) (br (ieq f.ty 3) (K ⟨false, false, false, 1⟩ ⟨3, x.b, 9223372036854775807, false⟩) (K ⟨false, true, false, 5⟩ ⟨4, x.b, lv now f.dn, true⟩))
      (br (ieq x.s 4) (br x.lt (K ⟨false, true, false, 0⟩ ⟨5, false, 9223372036854775807, false⟩) (K ⟨false, true, false, 5⟩ ⟨5, false, 9223372036854775807, false⟩)) (K ⟨false, false, true, 0⟩ ⟨x.s, x.b, 9223372036854775807, x.lt⟩)))

def startO (lv : Int → Int → Int) (f : Fi) (x : St) (now : Int) : Ou := startT lv f x now fun o e y => o
def startE (lv : Int → Int → Int) (f : Fi) (x : St) (now : Int) : Bool := startT lv f x now fun o e y => e
def startS (lv : Int → Int → Int) (f : Fi) (x : St) (now : Int) : St := startT lv f x now fun o e y => y
theorem startT_eq {X : Type} (lv : Int → Int → Int) (f : Fi) (x : St) (now : Int) (K : Ou → Bool → St → X) : startT lv f x now K = K (startO lv f x now) (startE lv f x now) (startS lv f x now) := by
  simp only [startT, startO, startS, startE, br_eq]
  repeat' split
  all_goals first | rfl | simp_all
def stopO (lv : Int → Int → Int) (f : Fi) (x : St) (now : Int) : Ou := stopT lv f x now fun o e y => o
def stopE (lv : Int → Int → Int) (f : Fi) (x : St) (now : Int) : Bool := stopT lv f x now fun o e y => e
def stopS (lv : Int → Int → Int) (f : Fi) (x : St) (now : Int) : St := stopT lv f x now fun o e y => y
theorem stopT_eq {X : Type} (lv : Int → Int → Int) (f : Fi) (x : St) (now : Int) (K : Ou → Bool → St → X) : stopT lv f x now K = K (stopO lv f x now) (stopE lv f x now) (stopS lv f x now) := by
  simp only [stopT, stopO, stopS, stopE, br_eq]
  repeat' split
  all_goals first | rfl | simp_all
def exitO (lv : Int → Int → Int) (f : Fi) (x : St) (code now : Int) : Ou := exitT lv f x code now fun o y => o
def exitS (lv : Int → Int → Int) (f : Fi) (x : St) (code now : Int) : St := exitT lv f x code now fun o y => y
theorem exitT_eq {X : Type} (lv : Int → Int → Int) (f : Fi) (x : St) (code now : Int) (K : Ou → St → X) : exitT lv f x code now K = K (exitO lv f x code now) (exitS lv f x code now) := by
  simp only [exitT, exitO, exitS, endsT, br_eq]
  repeat' split
  all_goals first | rfl | simp_all
def tickO (lv : Int → Int → Int) (f : Fi) (x : St) (now : Int) : Ou := tickT lv f x now fun o y => o
def tickS (lv : Int → Int → Int) (f : Fi) (x : St) (now : Int) : St := tickT lv f x now fun o y => y
theorem tickT_eq {X : Type} (lv : Int → Int → Int) (f : Fi) (x : St) (now : Int) (K : Ou → St → X) : tickT lv f x now K = K (tickO lv f x now) (tickS lv f x now) := by
  simp only [tickT, tickO, tickS, br_eq]
  repeat' split
  all_goals first | rfl | simp_all

/-- What follows a call over one block, as a function of that block. -/
def afterB {R : Type} (n : Nat) (H : Heap) (k : A → Heap → Option R) (v : A) (x : Option Blk) : Option R :=
  if pureA v then (match x with
    | some (.cells true cs) => if pureL cs then k v (H.set n (.cells true cs)) else none
    | _ => none) else none
theorem after1_eq {R : Type} (n : Nat) (H : Heap) (k : A → Heap → Option R) : after1 n H k = fun v L => afterB n H k v (L.get 0) := by
  funext v L; rfl
theorem afterB_some {R : Type} {n : Nat} {H : Heap} {k : A → Heap → Option R} {v : A} {cs : List A} (h1 : pureA v = true) (h2 : pureL cs = true) : afterB n H k v (some (.cells true cs)) = k v (H.set n (.cells true cs)) := by
  unfold afterB; rw [if_pos h1]; simp only [h2, if_true]
theorem outC_pure (o : Ou) : pureA (outC o) = true := rfl
theorem outW_pure (o : Ou) : pureA (outW o) = true := rfl
theorem mc_pure {f : List A} (h : pureL f = true) (x : St) : pureL (mc f x) = true := pure_app h rfl
theorem mw_pure {f : List A} (h : pureL f = true) (x : St) : pureL (mw f x) = true := pure_app h rfl
def okS (s : Int) : Bool := ile 1 s && ile s 5
theorem okS_cases {s : Int} (h : okS s = true) : s = 1 ∨ s = 2 ∨ s = 3 ∨ s = 4 ∨ s = 5 := by
  simp only [okS, Bool.and_eq_true, ile_eq, decide_eq_true_eq] at h
  omega
theorem look_again (rs st : Int) (h : st = 1 ∨ st = 5) (code : Int) (hc : ieq code 0 = (ieq st 1)) :
    br ((look (κ := .int .u8) (ν := .int .u8) [(2, st), (3, 1), (4, 5)] rs).isSome) (ieq ((look (κ := .int .u8) (ν := .int .u8) [(2, st), (3, 1), (4, 5)] rs).getD 0) st) false = againB rs code := by
  have e1 : ∀ a b : Int, Ty.beq (.int .u8) a b = ieq a b := fun _ _ => rfl
  have c : ∀ a b : Int, ieq a b = ieq b a := fun a b => by simp only [ieq_eq]; exact decide_eq_decide.2 eq_comm
  unfold againB look
  rw [hc]
  simp only [List.find?, e1]
  rw [c 2 rs, c 3 rs, c 4 rs]
  cases h2 : ieq rs 2
  · cases h3 : ieq rs 3
    · cases h4 : ieq rs 4
      · rcases h with rfl | rfl <;> rfl
      · rcases h with rfl | rfl <;> rfl
    · cases h4 : ieq rs 4
      · rcases h with rfl | rfl <;> rfl
      · rw [ieq_eq] at h3 h4; simp at h3 h4; omega
  · have h3 : ieq rs 3 = false := by rw [ieq_eq] at h2 ⊢; simp at h2 ⊢; omega
    have h4 : ieq rs 4 = false := by rw [ieq_eq] at h2 ⊢; simp at h2 ⊢; omega
    rcases h with rfl | rfl <;> (simp only [h3, h4]; rfl)


/-- A method's contract out of its run over the block alone. -/
theorem local_ok {g : Nat} {R : Type} {n : Nat} {rest cs : List A} (C : Cx) (k : A → Heap → Option R) (r : R) (hR : Rel C) (hg : C.H.get n = some (.cells true cs)) (hp : pureL cs = true) (hr : pureL rest = true)
    (h : viF (R := R) E (T3 laterV laterW) 0 6 g (.ptr 0 0 :: rest) ⟨1, [(0, .cells true cs)]⟩ (fun v L => afterB n C.H k v (L.get 0)) = some r) : CallOk Try.prog g (.ptr n 0 :: rest) C k r := by
  refine localTE_ok E_ok T3_ok R _ C k r hR (u := 0) (d := 6) ?_
  rw [local1 hg hp hr, after1_eq]
  exact h

/-- The program: start. -/
def startCTE (F : Fi → St → Int → Option (Ou × Bool × St)) : TE := fun _ xs H k => match xs with
  | [.ptr n 0, .int .i64 now] => match H.get n with
    | some (.cells true [.int .u8 fk, a1, a2, a3, a4, a5, a6, a7, a8, a9, a10, .int .u8 ty, .bool rm, .int .u8 rs, .int .i64 ag, .int .i64 up, .int .i64 dn, ex, a18, a19, a20, a21, a22, a23, a24, .int .u8 s, .bool b, .int .i64 d, .bool lt]) => match noEx ex with
      | some ne => if pureL (fc a1 a2 a3 a4 a5 a6 a7 a8 a9 a10 a18 a19 a20 a21 a22 a23 a24 fk ty rm rs ag up dn ex) then bnd (F ⟨fk, ty, rm, rs, ag, up, dn, ne⟩ ⟨s, b, d, lt⟩ now) fun a => k (.tup [outC a.1, eC a.2.1]) (H.set n (.cells true (mc (fc a1 a2 a3 a4 a5 a6 a7 a8 a9 a10 a18 a19 a20 a21 a22 a23 a24 fk ty rm rs ag up dn ex) a.2.2))) else none
      | none => none
    | _ => none
  | _ => none
theorem startC_S {R : Type} (lv lw : Int → Int → Int) (a1 a2 a3 a4 a5 a6 a7 a8 a9 a10 a18 a19 a20 a21 a22 a23 a24 : A) (fk ty : Int) (rm : Bool) (rs ag up dn : Int) (b lt : Bool) (d now : Int) (s : Int) (ex : List Str) (K : A → Option Blk → Option R) :
    viF (R := R) E (T3 lv lw) 0 6 13 [.ptr 0 0, .int .i64 now] ⟨1, [(0, .cells true (mc (fc a1 a2 a3 a4 a5 a6 a7 a8 a9 a10 a18 a19 a20 a21 a22 a23 a24 fk ty rm rs ag up dn (.sl .str ex)) ⟨s, b, d, lt⟩))]⟩ (fun v L => K v (L.get 0)) =
      startT lv ⟨fk, ty, rm, rs, ag, up, dn, (Nat.beq ex.length 0)⟩ ⟨s, b, d, lt⟩ now (fun o e y => K (.tup [outC o, eC e]) (some (.cells true (mc (fc a1 a2 a3 a4 a5 a6 a7 a8 a9 a10 a18 a19 a20 a21 a22 a23 a24 fk ty rm rs ag up dn (.sl .str ex)) y)))) := by kernel_rfl
theorem startC_N {R : Type} (lv lw : Int → Int → Int) (a1 a2 a3 a4 a5 a6 a7 a8 a9 a10 a18 a19 a20 a21 a22 a23 a24 : A) (fk ty : Int) (rm : Bool) (rs ag up dn : Int) (b lt : Bool) (d now : Int) (s : Int) (K : A → Option Blk → Option R) :
    viF (R := R) E (T3 lv lw) 0 6 13 [.ptr 0 0, .int .i64 now] ⟨1, [(0, .cells true (mc (fc a1 a2 a3 a4 a5 a6 a7 a8 a9 a10 a18 a19 a20 a21 a22 a23 a24 fk ty rm rs ag up dn .nils) ⟨s, b, d, lt⟩))]⟩ (fun v L => K v (L.get 0)) =
      startT lv ⟨fk, ty, rm, rs, ag, up, dn, true⟩ ⟨s, b, d, lt⟩ now (fun o e y => K (.tup [outC o, eC e]) (some (.cells true (mc (fc a1 a2 a3 a4 a5 a6 a7 a8 a9 a10 a18 a19 a20 a21 a22 a23 a24 fk ty rm rs ag up dn .nils) y)))) := by kernel_rfl
/-- The program: stop. -/
def stopCTE (F : Fi → St → Int → Option (Ou × Bool × St)) : TE := fun _ xs H k => match xs with
  | [.ptr n 0, .int .i64 now] => match H.get n with
    | some (.cells true [.int .u8 fk, a1, a2, a3, a4, a5, a6, a7, a8, a9, a10, .int .u8 ty, .bool rm, .int .u8 rs, .int .i64 ag, .int .i64 up, .int .i64 dn, ex, a18, a19, a20, a21, a22, a23, a24, .int .u8 s, .bool b, .int .i64 d, .bool lt]) => match noEx ex with
      | some ne => if pureL (fc a1 a2 a3 a4 a5 a6 a7 a8 a9 a10 a18 a19 a20 a21 a22 a23 a24 fk ty rm rs ag up dn ex) then bnd (F ⟨fk, ty, rm, rs, ag, up, dn, ne⟩ ⟨s, b, d, lt⟩ now) fun a => k (.tup [outC a.1, eC a.2.1]) (H.set n (.cells true (mc (fc a1 a2 a3 a4 a5 a6 a7 a8 a9 a10 a18 a19 a20 a21 a22 a23 a24 fk ty rm rs ag up dn ex) a.2.2))) else none
      | none => none
    | _ => none
  | _ => none
theorem stopC_eq {R : Type} (lv lw : Int → Int → Int) (a1 a2 a3 a4 a5 a6 a7 a8 a9 a10 a18 a19 a20 a21 a22 a23 a24 : A) (fk ty : Int) (rm : Bool) (rs ag up dn : Int) (b lt : Bool) (d now : Int) (s : Int) (ne : Bool) (ex : A) (K : A → Option Blk → Option R) :
    viF (R := R) E (T3 lv lw) 0 6 14 [.ptr 0 0, .int .i64 now] ⟨1, [(0, .cells true (mc (fc a1 a2 a3 a4 a5 a6 a7 a8 a9 a10 a18 a19 a20 a21 a22 a23 a24 fk ty rm rs ag up dn ex) ⟨s, b, d, lt⟩))]⟩ (fun v L => K v (L.get 0)) =
      stopT lv ⟨fk, ty, rm, rs, ag, up, dn, ne⟩ ⟨s, b, d, lt⟩ now (fun o e y => K (.tup [outC o, eC e]) (some (.cells true (mc (fc a1 a2 a3 a4 a5 a6 a7 a8 a9 a10 a18 a19 a20 a21 a22 a23 a24 fk ty rm rs ag up dn ex) y)))) := by kernel_rfl
/-- The document: start. -/
def startWTE (F : Fi → St → Int → Option (Ou × Bool × St)) : TE := fun _ xs H k => match xs with
  | [.ptr n 0, .int .i64 now] => match H.get n with
    | some (.cells true [.int .i64 fk, a1, a2, a3, a4, a5, a6, a7, a8, a9, a10, .int .i64 ty, .bool rm, .int .i64 rs, .int .i64 ag, .int .i64 up, .int .i64 dn, ex, a18, a19, a20, a21, a22, a23, a24, .int .i64 s, .bool b, .int .i64 d, .bool lt]) => match noEx ex with
      | some ne => if pureL (fw a1 a2 a3 a4 a5 a6 a7 a8 a9 a10 a18 a19 a20 a21 a22 a23 a24 fk ty rm rs ag up dn ex) then bnd (F ⟨fk, ty, rm, rs, ag, up, dn, ne⟩ ⟨s, b, d, lt⟩ now) fun a => k (.tup [outW a.1, .bool a.2.1]) (H.set n (.cells true (mw (fw a1 a2 a3 a4 a5 a6 a7 a8 a9 a10 a18 a19 a20 a21 a22 a23 a24 fk ty rm rs ag up dn ex) a.2.2))) else none
      | none => none
    | _ => none
  | _ => none
theorem startW_S {R : Type} (lv lw : Int → Int → Int) (a1 a2 a3 a4 a5 a6 a7 a8 a9 a10 a18 a19 a20 a21 a22 a23 a24 : A) (fk ty : Int) (rm : Bool) (rs ag up dn : Int) (b lt : Bool) (d now : Int) (s : Int) (ex : List Str) (K : A → Option Blk → Option R) :
    viF (R := R) E (T3 lv lw) 0 6 45 [.ptr 0 0, .int .i64 now] ⟨1, [(0, .cells true (mw (fw a1 a2 a3 a4 a5 a6 a7 a8 a9 a10 a18 a19 a20 a21 a22 a23 a24 fk ty rm rs ag up dn (.sl .str ex)) ⟨s, b, d, lt⟩))]⟩ (fun v L => K v (L.get 0)) =
      startT lw ⟨fk, ty, rm, rs, ag, up, dn, (Nat.beq ex.length 0)⟩ ⟨s, b, d, lt⟩ now (fun o e y => K (.tup [outW o, .bool e]) (some (.cells true (mw (fw a1 a2 a3 a4 a5 a6 a7 a8 a9 a10 a18 a19 a20 a21 a22 a23 a24 fk ty rm rs ag up dn (.sl .str ex)) y)))) := by kernel_rfl
theorem startW_N {R : Type} (lv lw : Int → Int → Int) (a1 a2 a3 a4 a5 a6 a7 a8 a9 a10 a18 a19 a20 a21 a22 a23 a24 : A) (fk ty : Int) (rm : Bool) (rs ag up dn : Int) (b lt : Bool) (d now : Int) (s : Int) (K : A → Option Blk → Option R) :
    viF (R := R) E (T3 lv lw) 0 6 45 [.ptr 0 0, .int .i64 now] ⟨1, [(0, .cells true (mw (fw a1 a2 a3 a4 a5 a6 a7 a8 a9 a10 a18 a19 a20 a21 a22 a23 a24 fk ty rm rs ag up dn .nils) ⟨s, b, d, lt⟩))]⟩ (fun v L => K v (L.get 0)) =
      startT lw ⟨fk, ty, rm, rs, ag, up, dn, true⟩ ⟨s, b, d, lt⟩ now (fun o e y => K (.tup [outW o, .bool e]) (some (.cells true (mw (fw a1 a2 a3 a4 a5 a6 a7 a8 a9 a10 a18 a19 a20 a21 a22 a23 a24 fk ty rm rs ag up dn .nils) y)))) := by kernel_rfl
/-- The document: stop. -/
def stopWTE (F : Fi → St → Int → Option (Ou × St)) : TE := fun _ xs H k => match xs with
  | [.ptr n 0, .int .i64 now] => match H.get n with
    | some (.cells true [.int .i64 fk, a1, a2, a3, a4, a5, a6, a7, a8, a9, a10, .int .i64 ty, .bool rm, .int .i64 rs, .int .i64 ag, .int .i64 up, .int .i64 dn, ex, a18, a19, a20, a21, a22, a23, a24, .int .i64 s, .bool b, .int .i64 d, .bool lt]) => match noEx ex with
      | some ne => if pureL (fw a1 a2 a3 a4 a5 a6 a7 a8 a9 a10 a18 a19 a20 a21 a22 a23 a24 fk ty rm rs ag up dn ex) then bnd (F ⟨fk, ty, rm, rs, ag, up, dn, ne⟩ ⟨s, b, d, lt⟩ now) fun a => k (outW a.1) (H.set n (.cells true (mw (fw a1 a2 a3 a4 a5 a6 a7 a8 a9 a10 a18 a19 a20 a21 a22 a23 a24 fk ty rm rs ag up dn ex) a.2))) else none
      | none => none
    | _ => none
  | _ => none
theorem stopW_eq {R : Type} (lv lw : Int → Int → Int) (a1 a2 a3 a4 a5 a6 a7 a8 a9 a10 a18 a19 a20 a21 a22 a23 a24 : A) (fk ty : Int) (rm : Bool) (rs ag up dn : Int) (b lt : Bool) (d now : Int) (s : Int) (ne : Bool) (ex : A) (K : A → Option Blk → Option R) :
    viF (R := R) E (T3 lv lw) 0 6 47 [.ptr 0 0, .int .i64 now] ⟨1, [(0, .cells true (mw (fw a1 a2 a3 a4 a5 a6 a7 a8 a9 a10 a18 a19 a20 a21 a22 a23 a24 fk ty rm rs ag up dn ex) ⟨s, b, d, lt⟩))]⟩ (fun v L => K v (L.get 0)) =
      stopT lw ⟨fk, ty, rm, rs, ag, up, dn, ne⟩ ⟨s, b, d, lt⟩ now (fun o _ y => K (outW o) (some (.cells true (mw (fw a1 a2 a3 a4 a5 a6 a7 a8 a9 a10 a18 a19 a20 a21 a22 a23 a24 fk ty rm rs ag up dn ex) y)))) := by kernel_rfl
/-- The document: exit. -/
def exitWTE (F : Fi → St → Int → Int → Option (Ou × St)) : TE := fun _ xs H k => match xs with
  | [.ptr n 0, .int .i64 code, .int .i64 now] => match H.get n with
    | some (.cells true [.int .i64 fk, a1, a2, a3, a4, a5, a6, a7, a8, a9, a10, .int .i64 ty, .bool rm, .int .i64 rs, .int .i64 ag, .int .i64 up, .int .i64 dn, ex, a18, a19, a20, a21, a22, a23, a24, .int .i64 s, .bool b, .int .i64 d, .bool lt]) => match noEx ex with
      | some ne => if pureL (fw a1 a2 a3 a4 a5 a6 a7 a8 a9 a10 a18 a19 a20 a21 a22 a23 a24 fk ty rm rs ag up dn ex) then bnd (F ⟨fk, ty, rm, rs, ag, up, dn, ne⟩ ⟨s, b, d, lt⟩ code now) fun a => k (outW a.1) (H.set n (.cells true (mw (fw a1 a2 a3 a4 a5 a6 a7 a8 a9 a10 a18 a19 a20 a21 a22 a23 a24 fk ty rm rs ag up dn ex) a.2))) else none
      | none => none
    | _ => none
  | _ => none
theorem exitW_eq {R : Type} (lv lw : Int → Int → Int) (a1 a2 a3 a4 a5 a6 a7 a8 a9 a10 a18 a19 a20 a21 a22 a23 a24 : A) (fk ty : Int) (rm : Bool) (rs ag up dn : Int) (b lt : Bool) (d code now : Int) (s : Int) (ne : Bool) (ex : A) (K : A → Option Blk → Option R) :
    viF (R := R) E (T3 lv lw) 0 6 48 [.ptr 0 0, .int .i64 code, .int .i64 now] ⟨1, [(0, .cells true (mw (fw a1 a2 a3 a4 a5 a6 a7 a8 a9 a10 a18 a19 a20 a21 a22 a23 a24 fk ty rm rs ag up dn ex) ⟨s, b, d, lt⟩))]⟩ (fun v L => K v (L.get 0)) =
      exitT lw ⟨fk, ty, rm, rs, ag, up, dn, ne⟩ ⟨s, b, d, lt⟩ code now (fun o y => K (outW o) (some (.cells true (mw (fw a1 a2 a3 a4 a5 a6 a7 a8 a9 a10 a18 a19 a20 a21 a22 a23 a24 fk ty rm rs ag up dn ex) y)))) := by kernel_rfl
/-- The document: tick. -/
def tickWTE (F : Fi → St → Int → Option (Ou × St)) : TE := fun _ xs H k => match xs with
  | [.ptr n 0, .int .i64 now] => match H.get n with
    | some (.cells true [.int .i64 fk, a1, a2, a3, a4, a5, a6, a7, a8, a9, a10, .int .i64 ty, .bool rm, .int .i64 rs, .int .i64 ag, .int .i64 up, .int .i64 dn, ex, a18, a19, a20, a21, a22, a23, a24, .int .i64 s, .bool b, .int .i64 d, .bool lt]) => match noEx ex with
      | some ne => if pureL (fw a1 a2 a3 a4 a5 a6 a7 a8 a9 a10 a18 a19 a20 a21 a22 a23 a24 fk ty rm rs ag up dn ex) then bnd (F ⟨fk, ty, rm, rs, ag, up, dn, ne⟩ ⟨s, b, d, lt⟩ now) fun a => k (outW a.1) (H.set n (.cells true (mw (fw a1 a2 a3 a4 a5 a6 a7 a8 a9 a10 a18 a19 a20 a21 a22 a23 a24 fk ty rm rs ag up dn ex) a.2))) else none
      | none => none
    | _ => none
  | _ => none
theorem tickW_eq {R : Type} (lv lw : Int → Int → Int) (a1 a2 a3 a4 a5 a6 a7 a8 a9 a10 a18 a19 a20 a21 a22 a23 a24 : A) (fk ty : Int) (rm : Bool) (rs ag up dn : Int) (b lt : Bool) (d now : Int) (s : Int) (ne : Bool) (ex : A) (K : A → Option Blk → Option R) :
    viF (R := R) E (T3 lv lw) 0 6 49 [.ptr 0 0, .int .i64 now] ⟨1, [(0, .cells true (mw (fw a1 a2 a3 a4 a5 a6 a7 a8 a9 a10 a18 a19 a20 a21 a22 a23 a24 fk ty rm rs ag up dn ex) ⟨s, b, d, lt⟩))]⟩ (fun v L => K v (L.get 0)) =
      tickT lw ⟨fk, ty, rm, rs, ag, up, dn, ne⟩ ⟨s, b, d, lt⟩ now (fun o y => K (outW o) (some (.cells true (mw (fw a1 a2 a3 a4 a5 a6 a7 a8 a9 a10 a18 a19 a20 a21 a22 a23 a24 fk ty rm rs ag up dn ex) y)))) := by kernel_rfl
/-- The program: exit. -/
def exitCTE (F : Fi → St → Int → Int → Option (Ou × St)) : TE := fun _ xs H k => match xs with
  | [.ptr n 0, .int .i64 code, .int .i64 now] => match H.get n with
    | some (.cells true [.int .u8 fk, a1, a2, a3, a4, a5, a6, a7, a8, a9, a10, .int .u8 ty, .bool rm, .int .u8 rs, .int .i64 ag, .int .i64 up, .int .i64 dn, ex, a18, a19, a20, a21, a22, a23, a24, .int .u8 s, .bool b, .int .i64 d, .bool lt]) => match noEx ex with
      | some ne => if pureL (fc a1 a2 a3 a4 a5 a6 a7 a8 a9 a10 a18 a19 a20 a21 a22 a23 a24 fk ty rm rs ag up dn ex) then bnd (F ⟨fk, ty, rm, rs, ag, up, dn, ne⟩ ⟨s, b, d, lt⟩ code now) fun a => k (outC a.1) (H.set n (.cells true (mc (fc a1 a2 a3 a4 a5 a6 a7 a8 a9 a10 a18 a19 a20 a21 a22 a23 a24 fk ty rm rs ag up dn ex) a.2))) else none
      | none => none
    | _ => none
  | _ => none
theorem exitC_1 {R : Type} (lv lw : Int → Int → Int) (a1 a2 a3 a4 a5 a6 a7 a8 a9 a10 a18 a19 a20 a21 a22 a23 a24 : A) (fk ty : Int) (rm : Bool) (rs ag up dn : Int) (b lt : Bool) (d code now : Int) (ex : A) (K : A → Option Blk → Option R) :
    viF (R := R) E (T3 lv lw) 0 6 15 [.ptr 0 0, .int .i64 code, .int .i64 now] ⟨1, [(0, .cells true (mc (fc a1 a2 a3 a4 a5 a6 a7 a8 a9 a10 a18 a19 a20 a21 a22 a23 a24 fk ty rm rs ag up dn ex) ⟨1, b, d, lt⟩))]⟩ (fun v L => K v (L.get 0)) =
      br (!b) (K (outC ⟨false, false, false, 0⟩) (some (.cells true (mc (fc a1 a2 a3 a4 a5 a6 a7 a8 a9 a10 a18 a19 a20 a21 a22 a23 a24 fk ty rm rs ag up dn ex) ⟨1, b, d, lt⟩)))) (br (ieq code code) (br (ieq now now) none none) none) := by kernel_rfl
theorem exitC_1' {R : Type} (lv lw : Int → Int → Int) (a1 a2 a3 a4 a5 a6 a7 a8 a9 a10 a18 a19 a20 a21 a22 a23 a24 : A) (fk ty : Int) (rm : Bool) (rs ag up dn : Int) (b lt : Bool) (d code now : Int) (ne : Bool) (ex : A) (K : A → Option Blk → Option R) (hg : br b (ile 2 1 && ile 1 4) true = true) :
    viF (R := R) E (T3 lv lw) 0 6 15 [.ptr 0 0, .int .i64 code, .int .i64 now] ⟨1, [(0, .cells true (mc (fc a1 a2 a3 a4 a5 a6 a7 a8 a9 a10 a18 a19 a20 a21 a22 a23 a24 fk ty rm rs ag up dn ex) ⟨1, b, d, lt⟩))]⟩ (fun v L => K v (L.get 0)) =
      exitT lv ⟨fk, ty, rm, rs, ag, up, dn, ne⟩ ⟨1, b, d, lt⟩ code now (fun o y => K (outC o) (some (.cells true (mc (fc a1 a2 a3 a4 a5 a6 a7 a8 a9 a10 a18 a19 a20 a21 a22 a23 a24 fk ty rm rs ag up dn ex) y)))) := by
  rw [exitC_1]
  simp only [ieq_self]
  cases b
  · rfl
  · cases hg
theorem exitC_2 {R : Type} (lv lw : Int → Int → Int) (a1 a2 a3 a4 a5 a6 a7 a8 a9 a10 a18 a19 a20 a21 a22 a23 a24 : A) (fk ty : Int) (rm : Bool) (rs ag up dn : Int) (b lt : Bool) (d code now : Int) (ex : A) (K : A → Option Blk → Option R) :
    viF (R := R) E (T3 lv lw) 0 6 15 [.ptr 0 0, .int .i64 code, .int .i64 now] ⟨1, [(0, .cells true (mc (fc a1 a2 a3 a4 a5 a6 a7 a8 a9 a10 a18 a19 a20 a21 a22 a23 a24 fk ty rm rs ag up dn ex) ⟨2, b, d, lt⟩))]⟩ (fun v L => K v (L.get 0)) =
      br (!b) (K (outC ⟨false, false, false, 0⟩) (some (.cells true (mc (fc a1 a2 a3 a4 a5 a6 a7 a8 a9 a10 a18 a19 a20 a21 a22 a23 a24 fk ty rm rs ag up dn ex) ⟨2, b, d, lt⟩)))) (br (ieq code code) (br (ieq now now) (br (br (!ieq ty 2) true (!ieq code 0)) (br (ieq code 0) (br (br ((look (κ := .int .u8) (ν := .int .u8) [(2, 1), (3, 1), (4, 5)] rs).isSome) (ieq ((look (κ := .int .u8) (ν := .int .u8) [(2, 1), (3, 1), (4, 5)] rs).getD 0) 1) false) (K (outC ⟨false, false, false, 2⟩) (some (.cells true (mc (fc a1 a2 a3 a4 a5 a6 a7 a8 a9 a10 a18 a19 a20 a21 a22 a23 a24 fk ty rm rs ag up dn ex) ⟨1, false, lv now ag, false⟩)))) (K (outC ⟨false, false, false, 2⟩) (some (.cells true (mc (fc a1 a2 a3 a4 a5 a6 a7 a8 a9 a10 a18 a19 a20 a21 a22 a23 a24 fk ty rm rs ag up dn ex) ⟨1, false, 9223372036854775807, false⟩))))) (br (br ((look (κ := .int .u8) (ν := .int .u8) [(2, 5), (3, 1), (4, 5)] rs).isSome) (ieq ((look (κ := .int .u8) (ν := .int .u8) [(2, 5), (3, 1), (4, 5)] rs).getD 0) 5) false) (K (outC ⟨false, false, false, 2⟩) (some (.cells true (mc (fc a1 a2 a3 a4 a5 a6 a7 a8 a9 a10 a18 a19 a20 a21 a22 a23 a24 fk ty rm rs ag up dn ex) ⟨5, false, lv now ag, false⟩)))) (K (outC ⟨false, false, false, 2⟩) (some (.cells true (mc (fc a1 a2 a3 a4 a5 a6 a7 a8 a9 a10 a18 a19 a20 a21 a22 a23 a24 fk ty rm rs ag up dn ex) ⟨5, false, 9223372036854775807, false⟩)))))) (br rm (K (outC ⟨false, false, false, 1⟩) (some (.cells true (mc (fc a1 a2 a3 a4 a5 a6 a7 a8 a9 a10 a18 a19 a20 a21 a22 a23 a24 fk ty rm rs ag up dn ex) ⟨3, false, 9223372036854775807, false⟩)))) (K (outC ⟨false, false, false, 1⟩) (some (.cells true (mc (fc a1 a2 a3 a4 a5 a6 a7 a8 a9 a10 a18 a19 a20 a21 a22 a23 a24 fk ty rm rs ag up dn ex) ⟨1, false, 9223372036854775807, false⟩)))))) none) none) := by kernel_rfl
theorem exitC_2' {R : Type} (lv lw : Int → Int → Int) (a1 a2 a3 a4 a5 a6 a7 a8 a9 a10 a18 a19 a20 a21 a22 a23 a24 : A) (fk ty : Int) (rm : Bool) (rs ag up dn : Int) (b lt : Bool) (d code now : Int) (ne : Bool) (ex : A) (K : A → Option Blk → Option R) (hg : br b (ile 2 2 && ile 2 4) true = true) :
    viF (R := R) E (T3 lv lw) 0 6 15 [.ptr 0 0, .int .i64 code, .int .i64 now] ⟨1, [(0, .cells true (mc (fc a1 a2 a3 a4 a5 a6 a7 a8 a9 a10 a18 a19 a20 a21 a22 a23 a24 fk ty rm rs ag up dn ex) ⟨2, b, d, lt⟩))]⟩ (fun v L => K v (L.get 0)) =
      exitT lv ⟨fk, ty, rm, rs, ag, up, dn, ne⟩ ⟨2, b, d, lt⟩ code now (fun o y => K (outC o) (some (.cells true (mc (fc a1 a2 a3 a4 a5 a6 a7 a8 a9 a10 a18 a19 a20 a21 a22 a23 a24 fk ty rm rs ag up dn ex) y)))) := by
  rw [exitC_2]
  simp only [ieq_self]
  cases b
  · rfl
  cases hc : ieq code 0
  · have hl := look_again rs 5 (.inr rfl) code hc
    simp only [exitT, endsT, hc, ← hl]
    cases ieq ty 2 <;> rfl
  · have hl := look_again rs 1 (.inl rfl) code hc
    simp only [exitT, endsT, hc, ← hl]
    cases ieq ty 2 <;> rfl
theorem exitC_3 {R : Type} (lv lw : Int → Int → Int) (a1 a2 a3 a4 a5 a6 a7 a8 a9 a10 a18 a19 a20 a21 a22 a23 a24 : A) (fk ty : Int) (rm : Bool) (rs ag up dn : Int) (b lt : Bool) (d code now : Int) (ex : A) (K : A → Option Blk → Option R) :
    viF (R := R) E (T3 lv lw) 0 6 15 [.ptr 0 0, .int .i64 code, .int .i64 now] ⟨1, [(0, .cells true (mc (fc a1 a2 a3 a4 a5 a6 a7 a8 a9 a10 a18 a19 a20 a21 a22 a23 a24 fk ty rm rs ag up dn ex) ⟨3, b, d, lt⟩))]⟩ (fun v L => K v (L.get 0)) =
      br (!b) (K (outC ⟨false, false, false, 0⟩) (some (.cells true (mc (fc a1 a2 a3 a4 a5 a6 a7 a8 a9 a10 a18 a19 a20 a21 a22 a23 a24 fk ty rm rs ag up dn ex) ⟨3, b, d, lt⟩)))) (br (ieq code code) (br (ieq now now) (br (ieq code 0) (br (br ((look (κ := .int .u8) (ν := .int .u8) [(2, 1), (3, 1), (4, 5)] rs).isSome) (ieq ((look (κ := .int .u8) (ν := .int .u8) [(2, 1), (3, 1), (4, 5)] rs).getD 0) 1) false) (K (outC ⟨false, false, false, 0⟩) (some (.cells true (mc (fc a1 a2 a3 a4 a5 a6 a7 a8 a9 a10 a18 a19 a20 a21 a22 a23 a24 fk ty rm rs ag up dn ex) ⟨1, false, lv now ag, false⟩)))) (K (outC ⟨false, false, false, 0⟩) (some (.cells true (mc (fc a1 a2 a3 a4 a5 a6 a7 a8 a9 a10 a18 a19 a20 a21 a22 a23 a24 fk ty rm rs ag up dn ex) ⟨1, false, 9223372036854775807, false⟩))))) (br (br ((look (κ := .int .u8) (ν := .int .u8) [(2, 5), (3, 1), (4, 5)] rs).isSome) (ieq ((look (κ := .int .u8) (ν := .int .u8) [(2, 5), (3, 1), (4, 5)] rs).getD 0) 5) false) (K (outC ⟨false, false, false, 0⟩) (some (.cells true (mc (fc a1 a2 a3 a4 a5 a6 a7 a8 a9 a10 a18 a19 a20 a21 a22 a23 a24 fk ty rm rs ag up dn ex) ⟨5, false, lv now ag, false⟩)))) (K (outC ⟨false, false, false, 0⟩) (some (.cells true (mc (fc a1 a2 a3 a4 a5 a6 a7 a8 a9 a10 a18 a19 a20 a21 a22 a23 a24 fk ty rm rs ag up dn ex) ⟨5, false, 9223372036854775807, false⟩)))))) none) none) := by kernel_rfl
theorem exitC_3' {R : Type} (lv lw : Int → Int → Int) (a1 a2 a3 a4 a5 a6 a7 a8 a9 a10 a18 a19 a20 a21 a22 a23 a24 : A) (fk ty : Int) (rm : Bool) (rs ag up dn : Int) (b lt : Bool) (d code now : Int) (ne : Bool) (ex : A) (K : A → Option Blk → Option R) (hg : br b (ile 2 3 && ile 3 4) true = true) :
    viF (R := R) E (T3 lv lw) 0 6 15 [.ptr 0 0, .int .i64 code, .int .i64 now] ⟨1, [(0, .cells true (mc (fc a1 a2 a3 a4 a5 a6 a7 a8 a9 a10 a18 a19 a20 a21 a22 a23 a24 fk ty rm rs ag up dn ex) ⟨3, b, d, lt⟩))]⟩ (fun v L => K v (L.get 0)) =
      exitT lv ⟨fk, ty, rm, rs, ag, up, dn, ne⟩ ⟨3, b, d, lt⟩ code now (fun o y => K (outC o) (some (.cells true (mc (fc a1 a2 a3 a4 a5 a6 a7 a8 a9 a10 a18 a19 a20 a21 a22 a23 a24 fk ty rm rs ag up dn ex) y)))) := by
  rw [exitC_3]
  simp only [ieq_self]
  cases b
  · rfl
  cases hc : ieq code 0
  · have hl := look_again rs 5 (.inr rfl) code hc
    simp only [exitT, endsT, hc, ← hl]
    cases ieq ty 2 <;> rfl
  · have hl := look_again rs 1 (.inl rfl) code hc
    simp only [exitT, endsT, hc, ← hl]
    cases ieq ty 2 <;> rfl
theorem exitC_4 {R : Type} (lv lw : Int → Int → Int) (a1 a2 a3 a4 a5 a6 a7 a8 a9 a10 a18 a19 a20 a21 a22 a23 a24 : A) (fk ty : Int) (rm : Bool) (rs ag up dn : Int) (b lt : Bool) (d code now : Int) (ex : A) (K : A → Option Blk → Option R) :
    viF (R := R) E (T3 lv lw) 0 6 15 [.ptr 0 0, .int .i64 code, .int .i64 now] ⟨1, [(0, .cells true (mc (fc a1 a2 a3 a4 a5 a6 a7 a8 a9 a10 a18 a19 a20 a21 a22 a23 a24 fk ty rm rs ag up dn ex) ⟨4, b, d, lt⟩))]⟩ (fun v L => K v (L.get 0)) =
      br (!b) (K (outC ⟨false, false, false, 0⟩) (some (.cells true (mc (fc a1 a2 a3 a4 a5 a6 a7 a8 a9 a10 a18 a19 a20 a21 a22 a23 a24 fk ty rm rs ag up dn ex) ⟨4, b, d, lt⟩)))) (br (ieq code code) (br (ieq now now) (br lt (K (outC ⟨false, false, false, 0⟩) (some (.cells true (mc (fc a1 a2 a3 a4 a5 a6 a7 a8 a9 a10 a18 a19 a20 a21 a22 a23 a24 fk ty rm rs ag up dn ex) ⟨5, false, 9223372036854775807, false⟩)))) (K (outC ⟨false, false, false, 1⟩) (some (.cells true (mc (fc a1 a2 a3 a4 a5 a6 a7 a8 a9 a10 a18 a19 a20 a21 a22 a23 a24 fk ty rm rs ag up dn ex) ⟨1, false, 9223372036854775807, false⟩))))) none) none) := by kernel_rfl
theorem exitC_4' {R : Type} (lv lw : Int → Int → Int) (a1 a2 a3 a4 a5 a6 a7 a8 a9 a10 a18 a19 a20 a21 a22 a23 a24 : A) (fk ty : Int) (rm : Bool) (rs ag up dn : Int) (b lt : Bool) (d code now : Int) (ne : Bool) (ex : A) (K : A → Option Blk → Option R) (hg : br b (ile 2 4 && ile 4 4) true = true) :
    viF (R := R) E (T3 lv lw) 0 6 15 [.ptr 0 0, .int .i64 code, .int .i64 now] ⟨1, [(0, .cells true (mc (fc a1 a2 a3 a4 a5 a6 a7 a8 a9 a10 a18 a19 a20 a21 a22 a23 a24 fk ty rm rs ag up dn ex) ⟨4, b, d, lt⟩))]⟩ (fun v L => K v (L.get 0)) =
      exitT lv ⟨fk, ty, rm, rs, ag, up, dn, ne⟩ ⟨4, b, d, lt⟩ code now (fun o y => K (outC o) (some (.cells true (mc (fc a1 a2 a3 a4 a5 a6 a7 a8 a9 a10 a18 a19 a20 a21 a22 a23 a24 fk ty rm rs ag up dn ex) y)))) := by
  rw [exitC_4]
  simp only [ieq_self]
  cases b
  · rfl
  · rfl
theorem exitC_5 {R : Type} (lv lw : Int → Int → Int) (a1 a2 a3 a4 a5 a6 a7 a8 a9 a10 a18 a19 a20 a21 a22 a23 a24 : A) (fk ty : Int) (rm : Bool) (rs ag up dn : Int) (b lt : Bool) (d code now : Int) (ex : A) (K : A → Option Blk → Option R) :
    viF (R := R) E (T3 lv lw) 0 6 15 [.ptr 0 0, .int .i64 code, .int .i64 now] ⟨1, [(0, .cells true (mc (fc a1 a2 a3 a4 a5 a6 a7 a8 a9 a10 a18 a19 a20 a21 a22 a23 a24 fk ty rm rs ag up dn ex) ⟨5, b, d, lt⟩))]⟩ (fun v L => K v (L.get 0)) =
      br (!b) (K (outC ⟨false, false, false, 0⟩) (some (.cells true (mc (fc a1 a2 a3 a4 a5 a6 a7 a8 a9 a10 a18 a19 a20 a21 a22 a23 a24 fk ty rm rs ag up dn ex) ⟨5, b, d, lt⟩)))) (br (ieq code code) (br (ieq now now) none none) none) := by kernel_rfl
theorem exitC_5' {R : Type} (lv lw : Int → Int → Int) (a1 a2 a3 a4 a5 a6 a7 a8 a9 a10 a18 a19 a20 a21 a22 a23 a24 : A) (fk ty : Int) (rm : Bool) (rs ag up dn : Int) (b lt : Bool) (d code now : Int) (ne : Bool) (ex : A) (K : A → Option Blk → Option R) (hg : br b (ile 2 5 && ile 5 4) true = true) :
    viF (R := R) E (T3 lv lw) 0 6 15 [.ptr 0 0, .int .i64 code, .int .i64 now] ⟨1, [(0, .cells true (mc (fc a1 a2 a3 a4 a5 a6 a7 a8 a9 a10 a18 a19 a20 a21 a22 a23 a24 fk ty rm rs ag up dn ex) ⟨5, b, d, lt⟩))]⟩ (fun v L => K v (L.get 0)) =
      exitT lv ⟨fk, ty, rm, rs, ag, up, dn, ne⟩ ⟨5, b, d, lt⟩ code now (fun o y => K (outC o) (some (.cells true (mc (fc a1 a2 a3 a4 a5 a6 a7 a8 a9 a10 a18 a19 a20 a21 a22 a23 a24 fk ty rm rs ag up dn ex) y)))) := by
  rw [exitC_5]
  simp only [ieq_self]
  cases b
  · rfl
  · cases hg
/-- The program: tick. -/
def tickCTE (F : Fi → St → Int → Option (Ou × St)) : TE := fun _ xs H k => match xs with
  | [.ptr n 0, .int .i64 now] => match H.get n with
    | some (.cells true [.int .u8 fk, a1, a2, a3, a4, a5, a6, a7, a8, a9, a10, .int .u8 ty, .bool rm, .int .u8 rs, .int .i64 ag, .int .i64 up, .int .i64 dn, ex, a18, a19, a20, a21, a22, a23, a24, .int .u8 s, .bool b, .int .i64 d, .bool lt]) => match noEx ex with
      | some ne => if pureL (fc a1 a2 a3 a4 a5 a6 a7 a8 a9 a10 a18 a19 a20 a21 a22 a23 a24 fk ty rm rs ag up dn ex) then bnd (F ⟨fk, ty, rm, rs, ag, up, dn, ne⟩ ⟨s, b, d, lt⟩ now) fun a => k (outC a.1) (H.set n (.cells true (mc (fc a1 a2 a3 a4 a5 a6 a7 a8 a9 a10 a18 a19 a20 a21 a22 a23 a24 fk ty rm rs ag up dn ex) a.2))) else none
      | none => none
    | _ => none
  | _ => none
theorem tickC_1 {R : Type} (lv lw : Int → Int → Int) (a1 a2 a3 a4 a5 a6 a7 a8 a9 a10 a18 a19 a20 a21 a22 a23 a24 : A) (fk ty : Int) (rm : Bool) (rs ag up dn : Int) (b lt : Bool) (d now : Int) (ex : A) (K : A → Option Blk → Option R) :
    viF (R := R) E (T3 lv lw) 0 6 16 [.ptr 0 0, .int .i64 now] ⟨1, [(0, .cells true (mc (fc a1 a2 a3 a4 a5 a6 a7 a8 a9 a10 a18 a19 a20 a21 a22 a23 a24 fk ty rm rs ag up dn ex) ⟨1, b, d, lt⟩))]⟩ (fun v L => K v (L.get 0)) =
      br (br (ieq d 9223372036854775807) true (ilt now d)) (K (outC ⟨false, false, false, 0⟩) (some (.cells true (mc (fc a1 a2 a3 a4 a5 a6 a7 a8 a9 a10 a18 a19 a20 a21 a22 a23 a24 fk ty rm rs ag up dn ex) ⟨1, b, d, lt⟩)))) (br (ieq now now) (K (outC ⟨false, false, true, 0⟩) (some (.cells true (mc (fc a1 a2 a3 a4 a5 a6 a7 a8 a9 a10 a18 a19 a20 a21 a22 a23 a24 fk ty rm rs ag up dn ex) ⟨1, b, 9223372036854775807, lt⟩)))) none) := by kernel_rfl
theorem tickC_1' {R : Type} (lv lw : Int → Int → Int) (a1 a2 a3 a4 a5 a6 a7 a8 a9 a10 a18 a19 a20 a21 a22 a23 a24 : A) (fk ty : Int) (rm : Bool) (rs ag up dn : Int) (b lt : Bool) (d now : Int) (ne : Bool) (ex : A) (K : A → Option Blk → Option R) (hg : br (br (ieq d 9223372036854775807) true (ilt now d)) true (!ieq 1 3) = true) :
    viF (R := R) E (T3 lv lw) 0 6 16 [.ptr 0 0, .int .i64 now] ⟨1, [(0, .cells true (mc (fc a1 a2 a3 a4 a5 a6 a7 a8 a9 a10 a18 a19 a20 a21 a22 a23 a24 fk ty rm rs ag up dn ex) ⟨1, b, d, lt⟩))]⟩ (fun v L => K v (L.get 0)) =
      tickT lv ⟨fk, ty, rm, rs, ag, up, dn, ne⟩ ⟨1, b, d, lt⟩ now (fun o y => K (outC o) (some (.cells true (mc (fc a1 a2 a3 a4 a5 a6 a7 a8 a9 a10 a18 a19 a20 a21 a22 a23 a24 fk ty rm rs ag up dn ex) y)))) := by
  rw [tickC_1]
  simp only [ieq_self]
  rfl
theorem tickC_2 {R : Type} (lv lw : Int → Int → Int) (a1 a2 a3 a4 a5 a6 a7 a8 a9 a10 a18 a19 a20 a21 a22 a23 a24 : A) (fk ty : Int) (rm : Bool) (rs ag up dn : Int) (b lt : Bool) (d now : Int) (ex : A) (K : A → Option Blk → Option R) :
    viF (R := R) E (T3 lv lw) 0 6 16 [.ptr 0 0, .int .i64 now] ⟨1, [(0, .cells true (mc (fc a1 a2 a3 a4 a5 a6 a7 a8 a9 a10 a18 a19 a20 a21 a22 a23 a24 fk ty rm rs ag up dn ex) ⟨2, b, d, lt⟩))]⟩ (fun v L => K v (L.get 0)) =
      br (br (ieq d 9223372036854775807) true (ilt now d)) (K (outC ⟨false, false, false, 0⟩) (some (.cells true (mc (fc a1 a2 a3 a4 a5 a6 a7 a8 a9 a10 a18 a19 a20 a21 a22 a23 a24 fk ty rm rs ag up dn ex) ⟨2, b, d, lt⟩)))) (br (ieq now now) (br (ieq ty 3) (K (outC ⟨false, false, false, 1⟩) (some (.cells true (mc (fc a1 a2 a3 a4 a5 a6 a7 a8 a9 a10 a18 a19 a20 a21 a22 a23 a24 fk ty rm rs ag up dn ex) ⟨3, b, 9223372036854775807, false⟩)))) (K (outC ⟨false, true, false, 5⟩) (some (.cells true (mc (fc a1 a2 a3 a4 a5 a6 a7 a8 a9 a10 a18 a19 a20 a21 a22 a23 a24 fk ty rm rs ag up dn ex) ⟨4, b, lv now dn, true⟩))))) none) := by kernel_rfl
theorem tickC_2' {R : Type} (lv lw : Int → Int → Int) (a1 a2 a3 a4 a5 a6 a7 a8 a9 a10 a18 a19 a20 a21 a22 a23 a24 : A) (fk ty : Int) (rm : Bool) (rs ag up dn : Int) (b lt : Bool) (d now : Int) (ne : Bool) (ex : A) (K : A → Option Blk → Option R) (hg : br (br (ieq d 9223372036854775807) true (ilt now d)) true (!ieq 2 3) = true) :
    viF (R := R) E (T3 lv lw) 0 6 16 [.ptr 0 0, .int .i64 now] ⟨1, [(0, .cells true (mc (fc a1 a2 a3 a4 a5 a6 a7 a8 a9 a10 a18 a19 a20 a21 a22 a23 a24 fk ty rm rs ag up dn ex) ⟨2, b, d, lt⟩))]⟩ (fun v L => K v (L.get 0)) =
      tickT lv ⟨fk, ty, rm, rs, ag, up, dn, ne⟩ ⟨2, b, d, lt⟩ now (fun o y => K (outC o) (some (.cells true (mc (fc a1 a2 a3 a4 a5 a6 a7 a8 a9 a10 a18 a19 a20 a21 a22 a23 a24 fk ty rm rs ag up dn ex) y)))) := by
  rw [tickC_2]
  simp only [ieq_self]
  rfl
theorem tickC_3 {R : Type} (lv lw : Int → Int → Int) (a1 a2 a3 a4 a5 a6 a7 a8 a9 a10 a18 a19 a20 a21 a22 a23 a24 : A) (fk ty : Int) (rm : Bool) (rs ag up dn : Int) (b lt : Bool) (d now : Int) (ex : A) (K : A → Option Blk → Option R) :
    viF (R := R) E (T3 lv lw) 0 6 16 [.ptr 0 0, .int .i64 now] ⟨1, [(0, .cells true (mc (fc a1 a2 a3 a4 a5 a6 a7 a8 a9 a10 a18 a19 a20 a21 a22 a23 a24 fk ty rm rs ag up dn ex) ⟨3, b, d, lt⟩))]⟩ (fun v L => K v (L.get 0)) =
      br (br (ieq d 9223372036854775807) true (ilt now d)) (K (outC ⟨false, false, false, 0⟩) (some (.cells true (mc (fc a1 a2 a3 a4 a5 a6 a7 a8 a9 a10 a18 a19 a20 a21 a22 a23 a24 fk ty rm rs ag up dn ex) ⟨3, b, d, lt⟩)))) (br (ieq now now) none none) := by kernel_rfl
theorem tickC_3' {R : Type} (lv lw : Int → Int → Int) (a1 a2 a3 a4 a5 a6 a7 a8 a9 a10 a18 a19 a20 a21 a22 a23 a24 : A) (fk ty : Int) (rm : Bool) (rs ag up dn : Int) (b lt : Bool) (d now : Int) (ne : Bool) (ex : A) (K : A → Option Blk → Option R) (hg : br (br (ieq d 9223372036854775807) true (ilt now d)) true (!ieq 3 3) = true) :
    viF (R := R) E (T3 lv lw) 0 6 16 [.ptr 0 0, .int .i64 now] ⟨1, [(0, .cells true (mc (fc a1 a2 a3 a4 a5 a6 a7 a8 a9 a10 a18 a19 a20 a21 a22 a23 a24 fk ty rm rs ag up dn ex) ⟨3, b, d, lt⟩))]⟩ (fun v L => K v (L.get 0)) =
      tickT lv ⟨fk, ty, rm, rs, ag, up, dn, ne⟩ ⟨3, b, d, lt⟩ now (fun o y => K (outC o) (some (.cells true (mc (fc a1 a2 a3 a4 a5 a6 a7 a8 a9 a10 a18 a19 a20 a21 a22 a23 a24 fk ty rm rs ag up dn ex) y)))) := by
  rw [tickC_3]
  simp only [ieq_self]
  unfold tickT
  cases hd : br (ieq d 9223372036854775807) true (ilt now d)
  · rw [hd] at hg; cases hg
  · rfl
theorem tickC_4 {R : Type} (lv lw : Int → Int → Int) (a1 a2 a3 a4 a5 a6 a7 a8 a9 a10 a18 a19 a20 a21 a22 a23 a24 : A) (fk ty : Int) (rm : Bool) (rs ag up dn : Int) (b lt : Bool) (d now : Int) (ex : A) (K : A → Option Blk → Option R) :
    viF (R := R) E (T3 lv lw) 0 6 16 [.ptr 0 0, .int .i64 now] ⟨1, [(0, .cells true (mc (fc a1 a2 a3 a4 a5 a6 a7 a8 a9 a10 a18 a19 a20 a21 a22 a23 a24 fk ty rm rs ag up dn ex) ⟨4, b, d, lt⟩))]⟩ (fun v L => K v (L.get 0)) =
      br (br (ieq d 9223372036854775807) true (ilt now d)) (K (outC ⟨false, false, false, 0⟩) (some (.cells true (mc (fc a1 a2 a3 a4 a5 a6 a7 a8 a9 a10 a18 a19 a20 a21 a22 a23 a24 fk ty rm rs ag up dn ex) ⟨4, b, d, lt⟩)))) (br (ieq now now) (br lt (K (outC ⟨false, true, false, 0⟩) (some (.cells true (mc (fc a1 a2 a3 a4 a5 a6 a7 a8 a9 a10 a18 a19 a20 a21 a22 a23 a24 fk ty rm rs ag up dn ex) ⟨5, false, 9223372036854775807, false⟩)))) (K (outC ⟨false, true, false, 5⟩) (some (.cells true (mc (fc a1 a2 a3 a4 a5 a6 a7 a8 a9 a10 a18 a19 a20 a21 a22 a23 a24 fk ty rm rs ag up dn ex) ⟨5, false, 9223372036854775807, false⟩))))) none) := by kernel_rfl
theorem tickC_4' {R : Type} (lv lw : Int → Int → Int) (a1 a2 a3 a4 a5 a6 a7 a8 a9 a10 a18 a19 a20 a21 a22 a23 a24 : A) (fk ty : Int) (rm : Bool) (rs ag up dn : Int) (b lt : Bool) (d now : Int) (ne : Bool) (ex : A) (K : A → Option Blk → Option R) (hg : br (br (ieq d 9223372036854775807) true (ilt now d)) true (!ieq 4 3) = true) :
    viF (R := R) E (T3 lv lw) 0 6 16 [.ptr 0 0, .int .i64 now] ⟨1, [(0, .cells true (mc (fc a1 a2 a3 a4 a5 a6 a7 a8 a9 a10 a18 a19 a20 a21 a22 a23 a24 fk ty rm rs ag up dn ex) ⟨4, b, d, lt⟩))]⟩ (fun v L => K v (L.get 0)) =
      tickT lv ⟨fk, ty, rm, rs, ag, up, dn, ne⟩ ⟨4, b, d, lt⟩ now (fun o y => K (outC o) (some (.cells true (mc (fc a1 a2 a3 a4 a5 a6 a7 a8 a9 a10 a18 a19 a20 a21 a22 a23 a24 fk ty rm rs ag up dn ex) y)))) := by
  rw [tickC_4]
  simp only [ieq_self]
  rfl
theorem tickC_5 {R : Type} (lv lw : Int → Int → Int) (a1 a2 a3 a4 a5 a6 a7 a8 a9 a10 a18 a19 a20 a21 a22 a23 a24 : A) (fk ty : Int) (rm : Bool) (rs ag up dn : Int) (b lt : Bool) (d now : Int) (ex : A) (K : A → Option Blk → Option R) :
    viF (R := R) E (T3 lv lw) 0 6 16 [.ptr 0 0, .int .i64 now] ⟨1, [(0, .cells true (mc (fc a1 a2 a3 a4 a5 a6 a7 a8 a9 a10 a18 a19 a20 a21 a22 a23 a24 fk ty rm rs ag up dn ex) ⟨5, b, d, lt⟩))]⟩ (fun v L => K v (L.get 0)) =
      br (br (ieq d 9223372036854775807) true (ilt now d)) (K (outC ⟨false, false, false, 0⟩) (some (.cells true (mc (fc a1 a2 a3 a4 a5 a6 a7 a8 a9 a10 a18 a19 a20 a21 a22 a23 a24 fk ty rm rs ag up dn ex) ⟨5, b, d, lt⟩)))) (br (ieq now now) (K (outC ⟨false, false, true, 0⟩) (some (.cells true (mc (fc a1 a2 a3 a4 a5 a6 a7 a8 a9 a10 a18 a19 a20 a21 a22 a23 a24 fk ty rm rs ag up dn ex) ⟨5, b, 9223372036854775807, lt⟩)))) none) := by kernel_rfl
theorem tickC_5' {R : Type} (lv lw : Int → Int → Int) (a1 a2 a3 a4 a5 a6 a7 a8 a9 a10 a18 a19 a20 a21 a22 a23 a24 : A) (fk ty : Int) (rm : Bool) (rs ag up dn : Int) (b lt : Bool) (d now : Int) (ne : Bool) (ex : A) (K : A → Option Blk → Option R) (hg : br (br (ieq d 9223372036854775807) true (ilt now d)) true (!ieq 5 3) = true) :
    viF (R := R) E (T3 lv lw) 0 6 16 [.ptr 0 0, .int .i64 now] ⟨1, [(0, .cells true (mc (fc a1 a2 a3 a4 a5 a6 a7 a8 a9 a10 a18 a19 a20 a21 a22 a23 a24 fk ty rm rs ag up dn ex) ⟨5, b, d, lt⟩))]⟩ (fun v L => K v (L.get 0)) =
      tickT lv ⟨fk, ty, rm, rs, ag, up, dn, ne⟩ ⟨5, b, d, lt⟩ now (fun o y => K (outC o) (some (.cells true (mc (fc a1 a2 a3 a4 a5 a6 a7 a8 a9 a10 a18 a19 a20 a21 a22 a23 a24 fk ty rm rs ag up dn ex) y)))) := by
  rw [tickC_5]
  simp only [ieq_self]
  rfl
def startCF : Fi → St → Int → Option (Ou × Bool × St) := fun f x now => some (startO laterV f x now, startE laterV f x now, startS laterV f x now)
theorem startC_ok : TEok 13 (startCTE startCF) := fun R xs C k r hR h => by
  unfold startCTE at h
  split at h
  case h_2 => cases h
  split at h
  case h_2 => cases h
  rename_i hg
  split at h
  case h_2 => cases h
  rename_i ne hne
  split at h
  case isFalse => cases h
  rename_i hp
  refine local_ok C k r hR hg (mc_pure hp ⟨_, _, _, _⟩) rfl ?_
  unfold noEx at hne
  split at hne
  · cases hne
    refine Eq.trans (startC_S (R := R) laterV laterW _ _ _ _ _ _ _ _ _ _ _ _ _ _ _ _ _ _ _ _ _ _ _ _ _ _ _ _ _ _ (afterB _ C.H k)) ?_
    rw [startT_eq, afterB_some rfl (mc_pure hp _)]
    exact h
  · cases hne
    refine Eq.trans (startC_N (R := R) laterV laterW _ _ _ _ _ _ _ _ _ _ _ _ _ _ _ _ _ _ _ _ _ _ _ _ _ _ _ _ _ (afterB _ C.H k)) ?_
    rw [startT_eq, afterB_some rfl (mc_pure hp _)]
    exact h
  · cases hne
def stopCF : Fi → St → Int → Option (Ou × Bool × St) := fun f x now => some (stopO laterV f x now, stopE laterV f x now, stopS laterV f x now)
theorem stopC_ok : TEok 14 (stopCTE stopCF) := fun R xs C k r hR h => by
  unfold stopCTE at h
  split at h
  case h_2 => cases h
  split at h
  case h_2 => cases h
  rename_i hg
  split at h
  case h_2 => cases h
  rename_i ne hne
  split at h
  case isFalse => cases h
  rename_i hp
  refine local_ok C k r hR hg (mc_pure hp ⟨_, _, _, _⟩) rfl ?_
  refine Eq.trans (stopC_eq (R := R) laterV laterW _ _ _ _ _ _ _ _ _ _ _ _ _ _ _ _ _ _ _ _ _ _ _ _ _ _ _ _ _ ne _ (afterB _ C.H k)) ?_
  rw [stopT_eq, afterB_some rfl (mc_pure hp _)]
  exact h
def exitCF : Fi → St → Int → Int → Option (Ou × St) := fun f x code now => br (okS x.s && br x.b (ile 2 x.s && ile x.s 4) true) (some (exitO laterV f x code now, exitS laterV f x code now)) none
theorem exitC_ok : TEok 15 (exitCTE exitCF) := fun R xs C k r hR h => by
  unfold exitCTE at h
  split at h
  case h_2 => cases h
  split at h
  case h_2 => cases h
  rename_i hg
  split at h
  case h_2 => cases h
  rename_i ne hne
  split at h
  case isFalse => cases h
  rename_i hp
  refine local_ok C k r hR hg (mc_pure hp ⟨_, _, _, _⟩) rfl ?_
  unfold exitCF at h
  rw [bnd_br, bnd_none, br_eq] at h
  split at h
  case isFalse => cases h
  rename_i hs
  simp only [Bool.and_eq_true] at hs
  rcases okS_cases hs.1 with hs' | hs' | hs' | hs' | hs' <;> subst hs'
  · refine Eq.trans (exitC_1' (R := R) laterV laterW _ _ _ _ _ _ _ _ _ _ _ _ _ _ _ _ _ _ _ _ _ _ _ _ _ _ _ _ _ ne _ (afterB _ C.H k) hs.2) ?_
    rw [exitT_eq, afterB_some rfl (mc_pure hp _)]
    exact h
  · refine Eq.trans (exitC_2' (R := R) laterV laterW _ _ _ _ _ _ _ _ _ _ _ _ _ _ _ _ _ _ _ _ _ _ _ _ _ _ _ _ _ ne _ (afterB _ C.H k) hs.2) ?_
    rw [exitT_eq, afterB_some rfl (mc_pure hp _)]
    exact h
  · refine Eq.trans (exitC_3' (R := R) laterV laterW _ _ _ _ _ _ _ _ _ _ _ _ _ _ _ _ _ _ _ _ _ _ _ _ _ _ _ _ _ ne _ (afterB _ C.H k) hs.2) ?_
    rw [exitT_eq, afterB_some rfl (mc_pure hp _)]
    exact h
  · refine Eq.trans (exitC_4' (R := R) laterV laterW _ _ _ _ _ _ _ _ _ _ _ _ _ _ _ _ _ _ _ _ _ _ _ _ _ _ _ _ _ ne _ (afterB _ C.H k) hs.2) ?_
    rw [exitT_eq, afterB_some rfl (mc_pure hp _)]
    exact h
  · refine Eq.trans (exitC_5' (R := R) laterV laterW _ _ _ _ _ _ _ _ _ _ _ _ _ _ _ _ _ _ _ _ _ _ _ _ _ _ _ _ _ ne _ (afterB _ C.H k) hs.2) ?_
    rw [exitT_eq, afterB_some rfl (mc_pure hp _)]
    exact h
def tickCF : Fi → St → Int → Option (Ou × St) := fun f x now => br (okS x.s && br (br (ieq x.d 9223372036854775807) true (ilt now x.d)) true (!ieq x.s 3)) (some (tickO laterV f x now, tickS laterV f x now)) none
theorem tickC_ok : TEok 16 (tickCTE tickCF) := fun R xs C k r hR h => by
  unfold tickCTE at h
  split at h
  case h_2 => cases h
  split at h
  case h_2 => cases h
  rename_i hg
  split at h
  case h_2 => cases h
  rename_i ne hne
  split at h
  case isFalse => cases h
  rename_i hp
  refine local_ok C k r hR hg (mc_pure hp ⟨_, _, _, _⟩) rfl ?_
  unfold tickCF at h
  rw [bnd_br, bnd_none, br_eq] at h
  split at h
  case isFalse => cases h
  rename_i hs
  simp only [Bool.and_eq_true] at hs
  rcases okS_cases hs.1 with hs' | hs' | hs' | hs' | hs' <;> subst hs'
  · refine Eq.trans (tickC_1' (R := R) laterV laterW _ _ _ _ _ _ _ _ _ _ _ _ _ _ _ _ _ _ _ _ _ _ _ _ _ _ _ _ ne _ (afterB _ C.H k) hs.2) ?_
    rw [tickT_eq, afterB_some rfl (mc_pure hp _)]
    exact h
  · refine Eq.trans (tickC_2' (R := R) laterV laterW _ _ _ _ _ _ _ _ _ _ _ _ _ _ _ _ _ _ _ _ _ _ _ _ _ _ _ _ ne _ (afterB _ C.H k) hs.2) ?_
    rw [tickT_eq, afterB_some rfl (mc_pure hp _)]
    exact h
  · refine Eq.trans (tickC_3' (R := R) laterV laterW _ _ _ _ _ _ _ _ _ _ _ _ _ _ _ _ _ _ _ _ _ _ _ _ _ _ _ _ ne _ (afterB _ C.H k) hs.2) ?_
    rw [tickT_eq, afterB_some rfl (mc_pure hp _)]
    exact h
  · refine Eq.trans (tickC_4' (R := R) laterV laterW _ _ _ _ _ _ _ _ _ _ _ _ _ _ _ _ _ _ _ _ _ _ _ _ _ _ _ _ ne _ (afterB _ C.H k) hs.2) ?_
    rw [tickT_eq, afterB_some rfl (mc_pure hp _)]
    exact h
  · refine Eq.trans (tickC_5' (R := R) laterV laterW _ _ _ _ _ _ _ _ _ _ _ _ _ _ _ _ _ _ _ _ _ _ _ _ _ _ _ _ ne _ (afterB _ C.H k) hs.2) ?_
    rw [tickT_eq, afterB_some rfl (mc_pure hp _)]
    exact h
def startWF : Fi → St → Int → Option (Ou × Bool × St) := fun f x now => some (startO laterW f x now, startE laterW f x now, startS laterW f x now)
theorem startW_ok : TEok 45 (startWTE startWF) := fun R xs C k r hR h => by
  unfold startWTE at h
  split at h
  case h_2 => cases h
  split at h
  case h_2 => cases h
  rename_i hg
  split at h
  case h_2 => cases h
  rename_i ne hne
  split at h
  case isFalse => cases h
  rename_i hp
  refine local_ok C k r hR hg (mw_pure hp ⟨_, _, _, _⟩) rfl ?_
  unfold noEx at hne
  split at hne
  · cases hne
    refine Eq.trans (startW_S (R := R) laterV laterW _ _ _ _ _ _ _ _ _ _ _ _ _ _ _ _ _ _ _ _ _ _ _ _ _ _ _ _ _ _ (afterB _ C.H k)) ?_
    rw [startT_eq, afterB_some rfl (mw_pure hp _)]
    exact h
  · cases hne
    refine Eq.trans (startW_N (R := R) laterV laterW _ _ _ _ _ _ _ _ _ _ _ _ _ _ _ _ _ _ _ _ _ _ _ _ _ _ _ _ _ (afterB _ C.H k)) ?_
    rw [startT_eq, afterB_some rfl (mw_pure hp _)]
    exact h
  · cases hne
def stopWF : Fi → St → Int → Option (Ou × St) := fun f x now => some (stopO laterW f x now, stopS laterW f x now)
theorem stopW_ok : TEok 47 (stopWTE stopWF) := fun R xs C k r hR h => by
  unfold stopWTE at h
  split at h
  case h_2 => cases h
  split at h
  case h_2 => cases h
  rename_i hg
  split at h
  case h_2 => cases h
  rename_i ne hne
  split at h
  case isFalse => cases h
  rename_i hp
  refine local_ok C k r hR hg (mw_pure hp ⟨_, _, _, _⟩) rfl ?_
  refine Eq.trans (stopW_eq (R := R) laterV laterW _ _ _ _ _ _ _ _ _ _ _ _ _ _ _ _ _ _ _ _ _ _ _ _ _ _ _ _ _ ne _ (afterB _ C.H k)) ?_
  rw [stopT_eq, afterB_some rfl (mw_pure hp _)]
  exact h
def exitWF : Fi → St → Int → Int → Option (Ou × St) := fun f x code now => some (exitO laterW f x code now, exitS laterW f x code now)
theorem exitW_ok : TEok 48 (exitWTE exitWF) := fun R xs C k r hR h => by
  unfold exitWTE at h
  split at h
  case h_2 => cases h
  split at h
  case h_2 => cases h
  rename_i hg
  split at h
  case h_2 => cases h
  rename_i ne hne
  split at h
  case isFalse => cases h
  rename_i hp
  refine local_ok C k r hR hg (mw_pure hp ⟨_, _, _, _⟩) rfl ?_
  refine Eq.trans (exitW_eq (R := R) laterV laterW _ _ _ _ _ _ _ _ _ _ _ _ _ _ _ _ _ _ _ _ _ _ _ _ _ _ _ _ _ _ ne _ (afterB _ C.H k)) ?_
  rw [exitT_eq, afterB_some rfl (mw_pure hp _)]
  exact h
def tickWF : Fi → St → Int → Option (Ou × St) := fun f x now => some (tickO laterW f x now, tickS laterW f x now)
theorem tickW_ok : TEok 49 (tickWTE tickWF) := fun R xs C k r hR h => by
  unfold tickWTE at h
  split at h
  case h_2 => cases h
  split at h
  case h_2 => cases h
  rename_i hg
  split at h
  case h_2 => cases h
  rename_i ne hne
  split at h
  case isFalse => cases h
  rename_i hp
  refine local_ok C k r hR hg (mw_pure hp ⟨_, _, _, _⟩) rfl ?_
  refine Eq.trans (tickW_eq (R := R) laterV laterW _ _ _ _ _ _ _ _ _ _ _ _ _ _ _ _ _ _ _ _ _ _ _ _ _ _ _ _ _ ne _ (afterB _ C.H k)) ?_
  rw [tickT_eq, afterB_some rfl (mw_pure hp _)]
  exact h

end Go.VI.Svc
