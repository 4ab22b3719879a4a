/-
  The interpreter's tables.
-/
import Derived.Test.YtjocfknaojbemaaProg
import Derived.Test.YtjocfknaojbemaaVILaw
import Derived.KernelRfl
namespace Go.VI.Svc
open Go.Proofs

def tis : List (Nat × TI) := [
  (2, { kind := .int .i64, size := 1, agg := false, bytes := 8, zero := .int .i64 0 }),
  (3, { kind := .int .i64, size := 1, agg := false, bytes := 8, zero := .int .i64 0 }),
  (4, { kind := .bool, size := 1, agg := false, bytes := 1, zero := .bool false }),
  (5, { kind := .int .u8, size := 1, agg := false, bytes := 1, zero := .int .u8 0 }),
  (9, { kind := .str, size := 1, agg := false, bytes := 16, zero := .str [] }),
  (22, { kind := .slice 26, size := 1, agg := false, bytes := 24, zero := .nils }),
  (23, { kind := .int .u32, size := 1, agg := false, bytes := 4, zero := .int .u32 0 }),
  (25, { kind := .struct [(0, 1, false), (1, 1, false), (2, 1, false)], size := 3, agg := true, bytes := 24, zero := .agg [.int .u8 0, .int .i64 0, .int .u32 0] }),
  (26, { kind := .slice 25, size := 1, agg := false, bytes := 24, zero := .nils }),
  (27, { kind := .slice 9, size := 1, agg := false, bytes := 24, zero := .nils }),
  (29, { kind := .struct [(0, 1, false), (1, 1, false), (2, 1, false), (3, 1, false), (4, 1, false), (5, 1, false), (6, 1, false), (7, 1, false), (8, 1, false), (9, 1, false)], size := 10, agg := true, bytes := 192, zero := .agg [.nils, .nils, .nils, .nils, .nils, .nils, .nils, .bool false, .int .i64 0, .int .i64 0] }),
  (31, { kind := .struct [(0, 1, false), (1, 1, false), (2, 1, false), (3, 1, false), (4, 1, false), (5, 1, false), (6, 1, false)], size := 7, agg := true, bytes := 56, zero := .agg [.int .u8 0, .bool false, .int .u8 0, .int .i64 0, .int .i64 0, .int .i64 0, .nils] }),
  (32, { kind := .slice 128, size := 1, agg := false, bytes := 24, zero := .nils }),
  (34, { kind := .struct [(0, 1, false), (1, 1, false), (2, 1, false), (3, 1, false), (4, 1, false), (5, 1, false), (6, 1, false)], size := 7, agg := true, bytes := 64, zero := .agg [.nils, .int .i64 0, .int .i64 0, .bool false, .bool false, .bool false, .str []] }),
  (36, { kind := .struct [(0, 1, false), (1, 10, true), (11, 7, true), (18, 7, true)], size := 25, agg := true, bytes := 320, zero := .agg [.int .u8 0, .nils, .nils, .nils, .nils, .nils, .nils, .nils, .bool false, .int .i64 0, .int .i64 0, .int .u8 0, .bool false, .int .u8 0, .int .i64 0, .int .i64 0, .int .i64 0, .nils, .nils, .int .i64 0, .int .i64 0, .bool false, .bool false, .bool false, .str []] }),
  (38, { kind := .slice 36, size := 1, agg := false, bytes := 24, zero := .nils }),
  (41, { kind := .ptr, size := 1, agg := false, bytes := 8, zero := .nilp }),
  (43, { kind := .struct [(0, 1, false), (1, 1, false), (2, 1, false), (3, 1, false)], size := 4, agg := true, bytes := 4, zero := .agg [.bool false, .bool false, .bool false, .int .u8 0] }),
  (44, { kind := .int .i64, size := 1, agg := false, bytes := 8, zero := .int .i64 0 }),
  (86, { kind := .ptr, size := 1, agg := false, bytes := 8, zero := .nilp }),
  (88, { kind := .arr 7 27, size := 7, agg := true, bytes := 168, zero := .agg [.nils, .nils, .nils, .nils, .nils, .nils, .nils] }),
  (89, { kind := .slice 130, size := 1, agg := false, bytes := 24, zero := .nils }),
  (91, { kind := .struct [(0, 1, false), (1, 7, true), (8, 1, false), (9, 1, false), (10, 1, false), (11, 1, false), (12, 1, false), (13, 1, false), (14, 1, false), (15, 1, false), (16, 1, false), (17, 1, false), (18, 1, false), (19, 1, false), (20, 1, false), (21, 1, false), (22, 1, false), (23, 1, false), (24, 1, false)], size := 25, agg := true, bytes := 336, zero := .agg [.int .i64 0, .nils, .nils, .nils, .nils, .nils, .nils, .nils, .bool false, .int .i64 0, .int .i64 0, .int .i64 0, .bool false, .int .i64 0, .int .i64 0, .int .i64 0, .int .i64 0, .nils, .nils, .int .i64 0, .int .i64 0, .bool false, .bool false, .bool false, .str []] }),
  (95, { kind := .struct [(0, 25, true), (25, 1, false), (26, 1, false), (27, 1, false), (28, 1, false)], size := 29, agg := true, bytes := 368, zero := .agg [.int .i64 0, .nils, .nils, .nils, .nils, .nils, .nils, .nils, .bool false, .int .i64 0, .int .i64 0, .int .i64 0, .bool false, .int .i64 0, .int .i64 0, .int .i64 0, .int .i64 0, .nils, .nils, .int .i64 0, .int .i64 0, .bool false, .bool false, .bool false, .str [], .int .i64 0, .bool false, .int .i64 0, .bool false] }),
  (97, { kind := .struct [(0, 25, true), (25, 1, false), (26, 1, false), (27, 1, false), (28, 1, false)], size := 29, agg := true, bytes := 344, zero := .agg [.int .u8 0, .nils, .nils, .nils, .nils, .nils, .nils, .nils, .bool false, .int .i64 0, .int .i64 0, .int .u8 0, .bool false, .int .u8 0, .int .i64 0, .int .i64 0, .int .i64 0, .nils, .nils, .int .i64 0, .int .i64 0, .bool false, .bool false, .bool false, .str [], .int .u8 0, .bool false, .int .i64 0, .bool false] }),
  (100, { kind := .func, size := 1, agg := false, bytes := 8, zero := .nilf }),
  (101, { kind := .map 104 100, size := 1, agg := false, bytes := 8, zero := .nilm }),
  (104, { kind := .struct [(0, 1, false), (1, 1, false)], size := 2, agg := true, bytes := 24, zero := .agg [.str [], .int .u8 0] }),
  (128, { kind := .struct [(0, 1, false), (1, 1, false), (2, 1, false)], size := 3, agg := true, bytes := 32, zero := .agg [.int .u8 0, .int .i64 0, .str []] }),
  (130, { kind := .struct [(0, 1, false), (1, 1, false), (2, 1, false)], size := 3, agg := true, bytes := 32, zero := .agg [.int .i64 0, .int .i64 0, .str []] }),
  (132, { kind := .struct [(0, 1, false), (1, 1, false), (2, 1, false), (3, 1, false)], size := 4, agg := true, bytes := 16, zero := .agg [.bool false, .bool false, .bool false, .int .i64 0] }),
  (167, { kind := .int .u64, size := 1, agg := false, bytes := 8, zero := .int .u64 0 }),
  (172, { kind := .map 5 5, size := 1, agg := false, bytes := 8, zero := .nilm })]

def tys : List (Nat × Ty) := [
  (2, (.int .i64)),
  (3, (.int .i64)),
  (4, .bool),
  (5, (.int .u8)),
  (9, .str),
  (22, (.nsl (.nsl (.pair (.int .u8) (.pair (.int .i64) (.int .u32)))))),
  (23, (.int .u32)),
  (25, (.pair (.int .u8) (.pair (.int .i64) (.int .u32)))),
  (26, (.nsl (.pair (.int .u8) (.pair (.int .i64) (.int .u32))))),
  (27, (.nsl .str)),
  (29, (.pair (.nsl .str) (.pair (.nsl .str) (.pair (.nsl .str) (.pair (.nsl .str) (.pair (.nsl .str) (.pair (.nsl .str) (.pair (.nsl .str) (.pair .bool (.pair (.int .i64) (.int .i64))))))))))),
  (31, (.pair (.int .u8) (.pair .bool (.pair (.int .u8) (.pair (.int .i64) (.pair (.int .i64) (.pair (.int .i64) (.nsl .str)))))))),
  (32, (.nsl (.pair (.int .u8) (.pair (.int .i64) .str)))),
  (34, (.pair (.nsl (.pair (.int .u8) (.pair (.int .i64) .str))) (.pair (.int .i64) (.pair (.int .i64) (.pair .bool (.pair .bool (.pair .bool .str))))))),
  (36, (.pair (.int .u8) (.pair (.pair (.nsl .str) (.pair (.nsl .str) (.pair (.nsl .str) (.pair (.nsl .str) (.pair (.nsl .str) (.pair (.nsl .str) (.pair (.nsl .str) (.pair .bool (.pair (.int .i64) (.int .i64)))))))))) (.pair (.pair (.int .u8) (.pair .bool (.pair (.int .u8) (.pair (.int .i64) (.pair (.int .i64) (.pair (.int .i64) (.nsl .str))))))) (.pair (.nsl (.pair (.int .u8) (.pair (.int .i64) .str))) (.pair (.int .i64) (.pair (.int .i64) (.pair .bool (.pair .bool (.pair .bool .str)))))))))),
  (38, (.nsl (.pair (.int .u8) (.pair (.pair (.nsl .str) (.pair (.nsl .str) (.pair (.nsl .str) (.pair (.nsl .str) (.pair (.nsl .str) (.pair (.nsl .str) (.pair (.nsl .str) (.pair .bool (.pair (.int .i64) (.int .i64)))))))))) (.pair (.pair (.int .u8) (.pair .bool (.pair (.int .u8) (.pair (.int .i64) (.pair (.int .i64) (.pair (.int .i64) (.nsl .str))))))) (.pair (.nsl (.pair (.int .u8) (.pair (.int .i64) .str))) (.pair (.int .i64) (.pair (.int .i64) (.pair .bool (.pair .bool (.pair .bool .str))))))))))),
  (43, (.pair .bool (.pair .bool (.pair .bool (.int .u8))))),
  (44, (.int .i64)),
  (88, (.pair (.nsl .str) (.pair (.nsl .str) (.pair (.nsl .str) (.pair (.nsl .str) (.pair (.nsl .str) (.pair (.nsl .str) (.nsl .str)))))))),
  (89, (.nsl (.pair (.int .i64) (.pair (.int .i64) .str)))),
  (91, (.pair (.int .i64) (.pair (.pair (.nsl .str) (.pair (.nsl .str) (.pair (.nsl .str) (.pair (.nsl .str) (.pair (.nsl .str) (.pair (.nsl .str) (.nsl .str))))))) (.pair .bool (.pair (.int .i64) (.pair (.int .i64) (.pair (.int .i64) (.pair .bool (.pair (.int .i64) (.pair (.int .i64) (.pair (.int .i64) (.pair (.int .i64) (.pair (.nsl .str) (.pair (.nsl (.pair (.int .i64) (.pair (.int .i64) .str))) (.pair (.int .i64) (.pair (.int .i64) (.pair .bool (.pair .bool (.pair .bool .str))))))))))))))))))),
  (95, (.pair (.pair (.int .i64) (.pair (.pair (.nsl .str) (.pair (.nsl .str) (.pair (.nsl .str) (.pair (.nsl .str) (.pair (.nsl .str) (.pair (.nsl .str) (.nsl .str))))))) (.pair .bool (.pair (.int .i64) (.pair (.int .i64) (.pair (.int .i64) (.pair .bool (.pair (.int .i64) (.pair (.int .i64) (.pair (.int .i64) (.pair (.int .i64) (.pair (.nsl .str) (.pair (.nsl (.pair (.int .i64) (.pair (.int .i64) .str))) (.pair (.int .i64) (.pair (.int .i64) (.pair .bool (.pair .bool (.pair .bool .str)))))))))))))))))) (.pair (.int .i64) (.pair .bool (.pair (.int .i64) .bool))))),
  (97, (.pair (.pair (.int .u8) (.pair (.pair (.nsl .str) (.pair (.nsl .str) (.pair (.nsl .str) (.pair (.nsl .str) (.pair (.nsl .str) (.pair (.nsl .str) (.pair (.nsl .str) (.pair .bool (.pair (.int .i64) (.int .i64)))))))))) (.pair (.pair (.int .u8) (.pair .bool (.pair (.int .u8) (.pair (.int .i64) (.pair (.int .i64) (.pair (.int .i64) (.nsl .str))))))) (.pair (.nsl (.pair (.int .u8) (.pair (.int .i64) .str))) (.pair (.int .i64) (.pair (.int .i64) (.pair .bool (.pair .bool (.pair .bool .str))))))))) (.pair (.int .u8) (.pair .bool (.pair (.int .i64) .bool))))),
  (100, .fn),
  (104, (.pair .str (.int .u8))),
  (128, (.pair (.int .u8) (.pair (.int .i64) .str))),
  (130, (.pair (.int .i64) (.pair (.int .i64) .str))),
  (132, (.pair .bool (.pair .bool (.pair .bool (.int .i64))))),
  (167, (.int .u64))]

def cmps : List (Nat × List TK) := [
  (25, [.int .u8, .int .i64, .int .u32]),
  (43, [.bool, .bool, .bool, .int .u8]),
  (104, [.str, .int .u8]),
  (128, [.int .u8, .int .i64, .str]),
  (130, [.int .i64, .int .i64, .str]),
  (132, [.bool, .bool, .bool, .int .i64])]

def keys : List (Nat × (List TK × Bool)) := [
  (104, ([.str, .int .u8], true)),
  (5, ([.int .u8], false))]

def fns : List Nat := [3, 8, 9, 10, 11, 12, 13, 14, 15, 16, 17, 18, 19, 20, 21, 28, 29, 30, 31, 32, 33, 34, 35, 36, 37, 45, 46, 47, 48, 49, 50, 51, 52, 53, 54, 55, 56, 57, 79, 80, 81, 82, 83, 93, 94]

noncomputable def E : Env where
  P := Try.prog
  ti t := luk tis t
  ty t := luk tys t
  ok f := fns.any fun g => Nat.beq g f
  cmp t := luk cmps t
  key t := luk keys t

theorem luk_all {α : Type} {f : Nat → Option α} : ∀ {l : List (Nat × α)}, l.map (fun p => f p.1) = l.map (fun p => some p.2) → ∀ {t : Nat} {i : α}, luk l t = some i → f t = some i
  | [], _, _, _, h => by cases h
  | (t, i) :: r, hp, u, j, h => by
    simp only [List.map_cons, List.cons.injEq] at hp
    rw [luk_cons] at h
    split at h
    · rename_i e
      subst e
      cases h
      exact hp.1
    · exact luk_all hp.2 h

theorem tis_ok : tis.map (fun p => tiOf Try.prog p.1) = tis.map (fun p => some p.2) := by kernel_rfl
theorem cmp_ok : cmps.map (fun p => plainCmp Try.prog p.1) = cmps.map (fun p => some p.2) := by kernel_rfl
theorem key_ok : keys.map (fun p => (flatK Try.prog 8 p.1).map fun k => (k, isAggB Try.prog p.1)) = keys.map (fun p => some p.2) := by kernel_rfl
theorem wf_ok : (fns.all fun f => wfF Try.prog f) = true := by kernel_rfl

theorem E_ok : EnvOk Try.prog E where
  prog := rfl
  ti _ _ h := luk_all (f := tiOf Try.prog) tis_ok h
  ok f h := by
    obtain ⟨g, hg, he⟩ := List.any_eq_true.1 h
    have := Nat.eq_of_beq_eq_true he
    subst this
    exact List.all_eq_true.1 wf_ok g hg
  cmp _ _ h := luk_all (f := plainCmp Try.prog) cmp_ok h
  key t ks ag h := by
    have := luk_all (f := fun t => (flatK Try.prog 8 t).map fun k => (k, isAggB Try.prog t)) key_ok h
    obtain ⟨k, h1, h2⟩ := Option.map_eq_some_iff.1 this
    cases h2
    exact ⟨h1, rfl⟩

end Go.VI.Svc
