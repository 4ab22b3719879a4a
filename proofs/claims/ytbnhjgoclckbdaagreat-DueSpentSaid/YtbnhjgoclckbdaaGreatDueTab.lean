/-
  The interpreter's tables for the triggers' laws.
-/
import Derived.Test.YtbnhjgoclckbdaaGreatProg
import Derived.Test.YtbnhjgoclckbdaaGreatVIPure
import Derived.KernelRfl
namespace Go.VI.Due
open Go.Proofs

def tis : List (Nat × TI) := [
  (2, { kind := .int .i64, size := 1, agg := false, bytes := 8, zero := .int .i64 0 }),
  (4, { kind := .bool, size := 1, agg := false, bytes := 1, zero := .bool false }),
  (5, { kind := .int .u8, size := 1, agg := false, bytes := 1, zero := .int .u8 0 }),
  (23, { kind := .struct [(0, 1, false), (1, 1, false), (2, 1, false)], size := 3, agg := true, bytes := 32, zero := .agg [.int .u8 0, .int .i64 0, .str []] }),
  (25, { kind := .struct [(0, 1, false), (1, 1, false), (2, 1, false), (3, 1, false), (4, 1, false), (5, 1, false)], size := 6, agg := true, bytes := 48,
         zero := .agg [.int .i64 0, .int .i64 0, .int .i64 0, .int .i64 0, .int .i64 0, .int .i64 0] }),
  (28, { kind := .struct [(0, 1, false), (1, 1, false)], size := 2, agg := true, bytes := 16, zero := .agg [.bool false, .int .i64 0] }),
  (33, { kind := .struct [(0, 1, false), (1, 1, false), (2, 1, false), (3, 1, false), (4, 1, false), (5, 1, false), (6, 1, false), (7, 1, false), (8, 1, false)], size := 9, agg := true, bytes := 168,
         zero := .agg [.int .u8 0, .nils, .nils, .nils, .bool false, .nils, .nils, .nils, .bool false] }),
  (37, { kind := .int .u32, size := 1, agg := false, bytes := 4, zero := .int .u32 0 }),
  (42, { kind := .map 5 2, size := 1, agg := false, bytes := 8, zero := .nilm }),
  (50, { kind := .int .u64, size := 1, agg := false, bytes := 8, zero := .int .u64 0 })]

noncomputable def E : Env where
  P := Tryz.prog
  ti t := luk tis t
  ty t := luk [(2, .int .i64), (5, .int .u8)] t
  ok f := [3, 4, 5, 6, 7, 8, 10, 17, 18].any fun g => Nat.beq g f
  cmp t := luk [(28, [.bool, .int .i64])] t
  key t := luk [(5, ([.int .u8], false))] t

theorem luk_all {α : Type} {f : Nat → Option α} : ∀ {l : List (Nat × α)}, l.map (fun p => f p.1) = l.map (fun p => some p.2) → ∀ {t : Nat} {i : α}, luk l t = some i → f t = some i
  | [], _, _, _, h => by cases h
  | (t, i) :: r, hp, u, j, h => by
    simp only [List.map_cons, List.cons.injEq] at hp
    rw [luk_cons] at h
    split at h
    · rename_i e
      subst e
      cases h
      exact hp.1
    · exact luk_all hp.2 h

theorem tis_ok : tis.map (fun p => tiOf Tryz.prog p.1) = tis.map (fun p => some p.2) := by kernel_rfl
theorem cmp_ok : [(28, [TK.bool, TK.int .i64])].map (fun p => plainCmp Tryz.prog p.1) = [(28, [TK.bool, TK.int .i64])].map (fun p => some p.2) := by kernel_rfl
theorem key_ok : [(5, ([TK.int .u8], false))].map (fun p => (flatK Tryz.prog 8 p.1).map fun k => (k, isAggB Tryz.prog p.1)) = [(5, ([TK.int .u8], false))].map (fun p => some p.2) := by kernel_rfl
theorem wf_ok : ([3, 4, 5, 6, 7, 8, 10, 17, 18].all fun f => wfF Tryz.prog f) = true := by kernel_rfl

theorem E_ok : EnvOk Tryz.prog E where
  prog := rfl
  ti _ _ h := luk_all (f := tiOf Tryz.prog) tis_ok h
  ok f h := by
    obtain ⟨g, hg, he⟩ := List.any_eq_true.1 h
    have := Nat.eq_of_beq_eq_true he
    subst this
    exact List.all_eq_true.1 wf_ok g hg
  cmp _ _ h := luk_all (f := plainCmp Tryz.prog) cmp_ok h
  key t ks ag h := by
    have := luk_all (f := fun t => (flatK Tryz.prog 8 t).map fun k => (k, isAggB Tryz.prog t)) key_ok h
    obtain ⟨k, h1, h2⟩ := Option.map_eq_some_iff.1 this
    cases h2
    exact ⟨h1, rfl⟩

end Go.VI.Due
