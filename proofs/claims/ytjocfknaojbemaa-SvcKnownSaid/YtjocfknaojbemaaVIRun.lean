/-
  The meaning of code and functions over the abstract heap.
-/
import Derived.Test.YtjocfknaojbemaaVIPlan
namespace Go.VI

variable {R : Type}

def viC (E : Env) (call : CallK R) (loops : Code → Option (Fr → Heap → (X → Fr → Heap → Option R) → Option R)) (u : Nat) :
    Code → Fr → Heap → (X → Fr → Heap → Option R) → Option R
  | .skip, tm, H, K => K .norm tm H
  | .region _ ops false, tm, H, K => bif splitMode ops then regS E call ops 0 ops.toList tm H (K .norm) else regK E call ops ops.toList tm [] H (K .norm)
  | .region _ ops true, tm, H, K => drawK E call ops tm H (K .norm)
  | .seq a b, tm, H, K => viC E call loops u a tm H (fun e tm1 H1 => match e with
    | .norm => viC E call loops u b tm1 H1 K
    | e => K e tm1 H1)
  | .cond c x y, tm, H, K => match c, ev tm c with
    | .tmp t, .bool b => br b (viC E call loops u x ((t, .bool true) :: tm) H K) (viC E call loops u y ((t, .bool false) :: tm) H K)
    | _, .bool b => br b (viC E call loops u x tm H K) (viC E call loops u y tm H K)
    | _, _ => none
  | .block id c, tm, H, K => viC E call loops u c tm H (fun e tm1 H1 => match e with
    | .exit j => if Nat.beq j id then K .norm tm1 H1 else K (.exit j) tm1 H1
    | e => K e tm1 H1)
  | .loop body, tm, H, K => match loops body with
    | some l => l tm H K
    | none => Nat.rec (motive := fun _ => Fr → Heap → Option R) (fun _ _ => none)
        (fun _ ih tm H => viC E call loops u body tm H (fun e tm1 H1 => match e with
          | .norm => ih tm1 H1
          | e => K e tm1 H1)) u tm H
  | .exit id, tm, H, K => K (.exit id) tm H
  | .ret, tm, H, K => K .ret tm H
  | _, _, _, _ => none

def resultsA (E : Env) (tm : Fr) (H : Heap) : List ResultVar → Option (List A)
  | [] => some []
  | r :: rest => match resultsA E tm H rest with
    | none => none
    | some l => match r with
      | .tmp t => some (tm.get t :: l)
      | .cell a t => match E.ti t with
        | some i => match cellsAt H (tm.get a) i.size with
          | some cs => (one i.agg cs).map (· :: l)
          | none => none
        | none => none
def resA (l : List A) : A := match l with
  | [a] => a
  | l => .tup l

def enterTm : Nat → List A → Fr
  | _, [] => []
  | n, a :: r => (n, a) :: enterTm (n + 1) r

structure Tab where
  fns : FuncId → Option TE
  loops : FuncId → Code → Option (∀ R : Type, Fr → Heap → (X → Fr → Heap → Option R) → Option R)

def viF (E : Env) (T : Tab) (u : Nat) : Nat → FuncId → List A → Heap → (A → Heap → Option R) → Option R
  | 0, _, _, _, _ => none
  | d + 1, f, args, H, k =>
    if E.ok f then (match E.P.funcs[f]? with
    | some fn => match fn.body with
      | some c => viC E (fun g as H1 k1 => match T.fns g with | some te => te R as H1 k1 | none => viF E T u d g as H1 k1)
          (fun body => match T.loops f body with | some l => some (l R) | none => none) u c (enterTm 0 args) H
          (fun e tm H1 => match e with
            | .exit _ => none
            | _ => match resultsA E tm H1 fn.results.toList with
              | some l => k (resA l) H1
              | none => none)
      | none => none
    | none => none) else none
end Go.VI
