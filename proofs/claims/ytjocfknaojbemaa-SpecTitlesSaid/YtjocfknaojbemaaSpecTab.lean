/-
  The interpreter's tables.
-/
import Derived.Test.YtjocfknaojbemaaProg
import Derived.Test.YtjocfknaojbemaaVILaw
import Derived.KernelRfl
namespace Go.VI.Spec
open Go.Proofs

def tis : List (Nat × TI) := [
  (2, { kind := .int .i64, size := 1, agg := false, bytes := 8, zero := .int .i64 0 }),
  (3, { kind := .int .i64, size := 1, agg := false, bytes := 8, zero := .int .i64 0 }),
  (4, { kind := .bool, size := 1, agg := false, bytes := 1, zero := .bool false }),
  (5, { kind := .int .u8, size := 1, agg := false, bytes := 1, zero := .int .u8 0 }),
  (9, { kind := .str, size := 1, agg := false, bytes := 16, zero := .str [] }),
  (23, { kind := .int .u32, size := 1, agg := false, bytes := 4, zero := .int .u32 0 }),
  (27, { kind := .slice 9, size := 1, agg := false, bytes := 24, zero := .nils }),
  (29, { kind := .struct [(0, 1, false), (1, 1, false), (2, 1, false), (3, 1, false), (4, 1, false), (5, 1, false), (6, 1, false), (7, 1, false), (8, 1, false), (9, 1, false)], size := 10, agg := true, bytes := 192, zero := .agg [.nils, .nils, .nils, .nils, .nils, .nils, .nils, .bool false, .int .i64 0, .int .i64 0] }),
  (31, { kind := .struct [(0, 1, false), (1, 1, false), (2, 1, false), (3, 1, false), (4, 1, false), (5, 1, false), (6, 1, false)], size := 7, agg := true, bytes := 56, zero := .agg [.int .u8 0, .bool false, .int .u8 0, .int .i64 0, .int .i64 0, .int .i64 0, .nils] }),
  (32, { kind := .slice 128, size := 1, agg := false, bytes := 24, zero := .nils }),
  (34, { kind := .struct [(0, 1, false), (1, 1, false), (2, 1, false), (3, 1, false), (4, 1, false), (5, 1, false), (6, 1, false)], size := 7, agg := true, bytes := 64, zero := .agg [.nils, .int .i64 0, .int .i64 0, .bool false, .bool false, .bool false, .str []] }),
  (36, { kind := .struct [(0, 1, false), (1, 10, true), (11, 7, true), (18, 7, true)], size := 25, agg := true, bytes := 320, zero := .agg [.int .u8 0, .nils, .nils, .nils, .nils, .nils, .nils, .nils, .bool false, .int .i64 0, .int .i64 0, .int .u8 0, .bool false, .int .u8 0, .int .i64 0, .int .i64 0, .int .i64 0, .nils, .nils, .int .i64 0, .int .i64 0, .bool false, .bool false, .bool false, .str []] }),
  (44, { kind := .int .i64, size := 1, agg := false, bytes := 8, zero := .int .i64 0 }),
  (53, { kind := .slice 80, size := 1, agg := false, bytes := 24, zero := .nils }),
  (55, { kind := .arr 16 5, size := 16, agg := true, bytes := 16, zero := .agg [.int .u8 0, .int .u8 0, .int .u8 0, .int .u8 0, .int .u8 0, .int .u8 0, .int .u8 0, .int .u8 0, .int .u8 0, .int .u8 0, .int .u8 0, .int .u8 0, .int .u8 0, .int .u8 0, .int .u8 0, .int .u8 0] }),
  (56, { kind := .slice 74, size := 1, agg := false, bytes := 24, zero := .nils }),
  (57, { kind := .slice 60, size := 1, agg := false, bytes := 24, zero := .nils }),
  (59, { kind := .struct [(0, 1, false), (1, 16, true), (17, 1, false), (18, 1, false)], size := 19, agg := true, bytes := 88, zero := .agg [.nils, .int .u8 0, .int .u8 0, .int .u8 0, .int .u8 0, .int .u8 0, .int .u8 0, .int .u8 0, .int .u8 0, .int .u8 0, .int .u8 0, .int .u8 0, .int .u8 0, .int .u8 0, .int .u8 0, .int .u8 0, .int .u8 0, .nils, .nils] }),
  (60, { kind := .slice 82, size := 1, agg := false, bytes := 24, zero := .nils }),
  (63, { kind := .struct [(0, 1, false), (1, 1, false), (2, 1, false)], size := 3, agg := true, bytes := 24, zero := .agg [.int .u8 0, .int .i64 0, .int .i64 0] }),
  (66, { kind := .slice 125, size := 1, agg := false, bytes := 24, zero := .nils }),
  (68, { kind := .struct [(0, 1, false)], size := 1, agg := true, bytes := 24, zero := .agg [.nils] }),
  (71, { kind := .struct [(0, 1, false), (1, 1, false)], size := 2, agg := true, bytes := 16, zero := .agg [.int .i64 0, .int .i64 0] }),
  (72, { kind := .slice 5, size := 1, agg := false, bytes := 24, zero := .nils }),
  (74, { kind := .struct [(0, 1, false), (1, 2, true), (3, 1, false), (4, 1, false), (5, 1, false), (6, 1, false), (7, 1, false), (8, 1, false)], size := 9, agg := true, bytes := 88, zero := .agg [.int .u8 0, .int .i64 0, .int .i64 0, .nils, .int .i64 0, .int .i64 0, .str [], .int .u8 0, .int .u8 0] }),
  (80, { kind := .struct [(0, 1, false), (1, 1, false), (2, 7, true), (9, 1, false), (10, 1, false)], size := 11, agg := true, bytes := 136, zero := .agg [.str [], .int .u8 0, .nils, .int .i64 0, .int .i64 0, .bool false, .bool false, .bool false, .str [], .nils, .nils] }),
  (82, { kind := .struct [(0, 1, false), (1, 2, true), (3, 1, false), (4, 1, false), (5, 1, false), (6, 1, false), (7, 1, false), (8, 1, false), (9, 1, false), (10, 1, false), (11, 1, false)], size := 12, agg := true, bytes := 88, zero := .agg [.int .u8 0, .int .i64 0, .int .i64 0, .str [], .int .i64 0, .int .u8 0, .int .u8 0, .int .u8 0, .int .i64 0, .int .u8 0, .int .i64 0, .int .i64 0] }),
  (107, { kind := .ptr, size := 1, agg := false, bytes := 8, zero := .nilp }),
  (108, { kind := .slice 153, size := 1, agg := false, bytes := 24, zero := .nils }),
  (110, { kind := .struct [(0, 1, false), (1, 1, false), (2, 1, false), (3, 1, false), (4, 1, false), (5, 1, false), (6, 1, false), (7, 1, false), (8, 1, false), (9, 1, false)], size := 10, agg := true, bytes := 240, zero := .agg [.nils, .nils, .nils, .nils, .nils, .nils, .nils, .nils, .nils, .nils] }),
  (112, { kind := .map 9 5, size := 1, agg := false, bytes := 8, zero := .nilm }),
  (113, { kind := .map 9 162, size := 1, agg := false, bytes := 8, zero := .nilm }),
  (114, { kind := .map 2 9, size := 1, agg := false, bytes := 8, zero := .nilm }),
  (115, { kind := .map 145 3, size := 1, agg := false, bytes := 8, zero := .nilm }),
  (117, { kind := .struct [(0, 1, true), (1, 10, true), (11, 16, true), (27, 9, true), (36, 1, false), (37, 1, false), (38, 1, false), (39, 1, false), (40, 1, false), (41, 1, false), (42, 1, false), (43, 1, false), (44, 1, false)], size := 45, agg := true, bytes := 456, zero := .agg [.nils, .nils, .nils, .nils, .nils, .nils, .nils, .nils, .nils, .nils, .nils, .int .u8 0, .int .u8 0, .int .u8 0, .int .u8 0, .int .u8 0, .int .u8 0, .int .u8 0, .int .u8 0, .int .u8 0, .int .u8 0, .int .u8 0, .int .u8 0, .int .u8 0, .int .u8 0, .int .u8 0, .int .u8 0, .int .u8 0, .int .i64 0, .int .i64 0, .nils, .int .i64 0, .int .i64 0, .str [], .int .u8 0, .int .u8 0, .nilm, .nilm, .nilm, .nilm, .int .i64 0, .bool false, .int .i64 0, .bool false, .nils] }),
  (119, { kind := .func, size := 1, agg := false, bytes := 8, zero := .nilf }),
  (120, { kind := .func, size := 1, agg := false, bytes := 8, zero := .nilf }),
  (122, { kind := .slice 119, size := 1, agg := false, bytes := 24, zero := .nils }),
  (125, { kind := .struct [(0, 1, false), (1, 25, true)], size := 26, agg := true, bytes := 336, zero := .agg [.str [], .int .u8 0, .nils, .nils, .nils, .nils, .nils, .nils, .nils, .bool false, .int .i64 0, .int .i64 0, .int .u8 0, .bool false, .int .u8 0, .int .i64 0, .int .i64 0, .int .i64 0, .nils, .nils, .int .i64 0, .int .i64 0, .bool false, .bool false, .bool false, .str []] }),
  (126, { kind := .arr 10 9, size := 10, agg := true, bytes := 160, zero := .agg [.str [], .str [], .str [], .str [], .str [], .str [], .str [], .str [], .str [], .str []] }),
  (128, { kind := .struct [(0, 1, false), (1, 1, false), (2, 1, false)], size := 3, agg := true, bytes := 32, zero := .agg [.int .u8 0, .int .i64 0, .str []] }),
  (141, { kind := .func, size := 1, agg := false, bytes := 8, zero := .nilf }),
  (145, { kind := .struct [(0, 1, false), (1, 1, false), (2, 1, false)], size := 3, agg := true, bytes := 32, zero := .agg [.str [], .int .u8 0, .int .i64 0] }),
  (146, { kind := .func, size := 1, agg := false, bytes := 8, zero := .nilf }),
  (153, { kind := .slice 3, size := 1, agg := false, bytes := 24, zero := .nils }),
  (155, { kind := .slice 108, size := 1, agg := false, bytes := 24, zero := .nils }),
  (156, { kind := .map 157 4, size := 1, agg := false, bytes := 8, zero := .nilm }),
  (157, { kind := .arr 2 3, size := 2, agg := true, bytes := 16, zero := .agg [.int .i64 0, .int .i64 0] }),
  (160, { kind := .struct [(0, 1, false), (1, 1, false)], size := 2, agg := true, bytes := 16, zero := .agg [.int .i64 0, .int .u8 0] }),
  (162, { kind := .struct [(0, 1, false), (1, 2, true), (3, 1, false)], size := 4, agg := true, bytes := 32, zero := .agg [.int .i64 0, .int .i64 0, .int .u8 0, .int .i64 0] }),
  (167, { kind := .int .u64, size := 1, agg := false, bytes := 8, zero := .int .u64 0 }),
  (168, { kind := .map 5 2, size := 1, agg := false, bytes := 8, zero := .nilm }),
  (175, { kind := .func, size := 1, agg := false, bytes := 8, zero := .nilf }),
  (178, { kind := .ptr, size := 1, agg := false, bytes := 8, zero := .nilp }),
  (183, { kind := .int .u64, size := 1, agg := false, bytes := 8, zero := .int .u64 0 }),
  (187, { kind := .arr 8 5, size := 8, agg := true, bytes := 8, zero := .agg [.int .u8 0, .int .u8 0, .int .u8 0, .int .u8 0, .int .u8 0, .int .u8 0, .int .u8 0, .int .u8 0] }),
  (189, { kind := .struct [(0, 1, false), (1, 1, false), (2, 1, false), (3, 1, false)], size := 4, agg := true, bytes := 32, zero := .agg [.int .u64 0, .int .u64 0, .int .u64 0, .int .u64 0] }),
  (191, { kind := .struct [(0, 4, true), (4, 8, true), (12, 1, false)], size := 13, agg := true, bytes := 48, zero := .agg [.int .u64 0, .int .u64 0, .int .u64 0, .int .u64 0, .int .u8 0, .int .u8 0, .int .u8 0, .int .u8 0, .int .u8 0, .int .u8 0, .int .u8 0, .int .u8 0, .int .i64 0] }),
  (195, { kind := .int .i64, size := 1, agg := false, bytes := 8, zero := .int .i64 0 }),
  (204, { kind := .ptr, size := 1, agg := false, bytes := 8, zero := .nilp }),
  (207, { kind := .int .u64, size := 1, agg := false, bytes := 8, zero := .int .u64 0 }),
  (210, { kind := .ptr, size := 1, agg := false, bytes := 8, zero := .nilp })]

def tys : List (Nat × Ty) := [
  (2, (.int .i64)),
  (3, (.int .i64)),
  (4, .bool),
  (5, (.int .u8)),
  (9, .str),
  (23, (.int .u32)),
  (27, (.nsl .str)),
  (29, (.pair (.nsl .str) (.pair (.nsl .str) (.pair (.nsl .str) (.pair (.nsl .str) (.pair (.nsl .str) (.pair (.nsl .str) (.pair (.nsl .str) (.pair .bool (.pair (.int .i64) (.int .i64))))))))))),
  (31, (.pair (.int .u8) (.pair .bool (.pair (.int .u8) (.pair (.int .i64) (.pair (.int .i64) (.pair (.int .i64) (.nsl .str)))))))),
  (32, (.nsl (.pair (.int .u8) (.pair (.int .i64) .str)))),
  (34, (.pair (.nsl (.pair (.int .u8) (.pair (.int .i64) .str))) (.pair (.int .i64) (.pair (.int .i64) (.pair .bool (.pair .bool (.pair .bool .str))))))),
  (36, (.pair (.int .u8) (.pair (.pair (.nsl .str) (.pair (.nsl .str) (.pair (.nsl .str) (.pair (.nsl .str) (.pair (.nsl .str) (.pair (.nsl .str) (.pair (.nsl .str) (.pair .bool (.pair (.int .i64) (.int .i64)))))))))) (.pair (.pair (.int .u8) (.pair .bool (.pair (.int .u8) (.pair (.int .i64) (.pair (.int .i64) (.pair (.int .i64) (.nsl .str))))))) (.pair (.nsl (.pair (.int .u8) (.pair (.int .i64) .str))) (.pair (.int .i64) (.pair (.int .i64) (.pair .bool (.pair .bool (.pair .bool .str)))))))))),
  (44, (.int .i64)),
  (53, (.nsl (.pair .str (.pair (.int .u8) (.pair (.pair (.nsl (.pair (.int .u8) (.pair (.int .i64) .str))) (.pair (.int .i64) (.pair (.int .i64) (.pair .bool (.pair .bool (.pair .bool .str)))))) (.pair (.nsl .str) (.nsl .str))))))),
  (55, (.pair (.int .u8) (.pair (.int .u8) (.pair (.int .u8) (.pair (.int .u8) (.pair (.int .u8) (.pair (.int .u8) (.pair (.int .u8) (.pair (.int .u8) (.pair (.int .u8) (.pair (.int .u8) (.pair (.int .u8) (.pair (.int .u8) (.pair (.int .u8) (.pair (.int .u8) (.pair (.int .u8) (.int .u8))))))))))))))))),
  (56, (.nsl (.pair (.int .u8) (.pair (.pair (.int .i64) (.int .i64)) (.pair (.nsl (.int .u8)) (.pair (.int .i64) (.pair (.int .i64) (.pair .str (.pair (.int .u8) (.int .u8)))))))))),
  (57, (.nsl (.nsl (.pair (.int .u8) (.pair (.pair (.int .i64) (.int .i64)) (.pair .str (.pair (.int .i64) (.pair (.int .u8) (.pair (.int .u8) (.pair (.int .u8) (.pair (.int .i64) (.pair (.int .u8) (.pair (.int .i64) (.int .i64)))))))))))))),
  (59, (.pair (.nsl (.pair .str (.pair (.int .u8) (.pair (.pair (.nsl (.pair (.int .u8) (.pair (.int .i64) .str))) (.pair (.int .i64) (.pair (.int .i64) (.pair .bool (.pair .bool (.pair .bool .str)))))) (.pair (.nsl .str) (.nsl .str)))))) (.pair (.pair (.int .u8) (.pair (.int .u8) (.pair (.int .u8) (.pair (.int .u8) (.pair (.int .u8) (.pair (.int .u8) (.pair (.int .u8) (.pair (.int .u8) (.pair (.int .u8) (.pair (.int .u8) (.pair (.int .u8) (.pair (.int .u8) (.pair (.int .u8) (.pair (.int .u8) (.pair (.int .u8) (.int .u8)))))))))))))))) (.pair (.nsl (.pair (.int .u8) (.pair (.pair (.int .i64) (.int .i64)) (.pair (.nsl (.int .u8)) (.pair (.int .i64) (.pair (.int .i64) (.pair .str (.pair (.int .u8) (.int .u8))))))))) (.nsl (.nsl (.pair (.int .u8) (.pair (.pair (.int .i64) (.int .i64)) (.pair .str (.pair (.int .i64) (.pair (.int .u8) (.pair (.int .u8) (.pair (.int .u8) (.pair (.int .i64) (.pair (.int .u8) (.pair (.int .i64) (.int .i64))))))))))))))))),
  (60, (.nsl (.pair (.int .u8) (.pair (.pair (.int .i64) (.int .i64)) (.pair .str (.pair (.int .i64) (.pair (.int .u8) (.pair (.int .u8) (.pair (.int .u8) (.pair (.int .i64) (.pair (.int .u8) (.pair (.int .i64) (.int .i64))))))))))))),
  (63, (.pair (.int .u8) (.pair (.int .i64) (.int .i64)))),
  (66, (.nsl (.pair .str (.pair (.int .u8) (.pair (.pair (.nsl .str) (.pair (.nsl .str) (.pair (.nsl .str) (.pair (.nsl .str) (.pair (.nsl .str) (.pair (.nsl .str) (.pair (.nsl .str) (.pair .bool (.pair (.int .i64) (.int .i64)))))))))) (.pair (.pair (.int .u8) (.pair .bool (.pair (.int .u8) (.pair (.int .i64) (.pair (.int .i64) (.pair (.int .i64) (.nsl .str))))))) (.pair (.nsl (.pair (.int .u8) (.pair (.int .i64) .str))) (.pair (.int .i64) (.pair (.int .i64) (.pair .bool (.pair .bool (.pair .bool .str)))))))))))),
  (68, (.nsl (.pair .str (.pair (.int .u8) (.pair (.pair (.nsl .str) (.pair (.nsl .str) (.pair (.nsl .str) (.pair (.nsl .str) (.pair (.nsl .str) (.pair (.nsl .str) (.pair (.nsl .str) (.pair .bool (.pair (.int .i64) (.int .i64)))))))))) (.pair (.pair (.int .u8) (.pair .bool (.pair (.int .u8) (.pair (.int .i64) (.pair (.int .i64) (.pair (.int .i64) (.nsl .str))))))) (.pair (.nsl (.pair (.int .u8) (.pair (.int .i64) .str))) (.pair (.int .i64) (.pair (.int .i64) (.pair .bool (.pair .bool (.pair .bool .str)))))))))))),
  (71, (.pair (.int .i64) (.int .i64))),
  (72, (.nsl (.int .u8))),
  (74, (.pair (.int .u8) (.pair (.pair (.int .i64) (.int .i64)) (.pair (.nsl (.int .u8)) (.pair (.int .i64) (.pair (.int .i64) (.pair .str (.pair (.int .u8) (.int .u8))))))))),
  (80, (.pair .str (.pair (.int .u8) (.pair (.pair (.nsl (.pair (.int .u8) (.pair (.int .i64) .str))) (.pair (.int .i64) (.pair (.int .i64) (.pair .bool (.pair .bool (.pair .bool .str)))))) (.pair (.nsl .str) (.nsl .str)))))),
  (82, (.pair (.int .u8) (.pair (.pair (.int .i64) (.int .i64)) (.pair .str (.pair (.int .i64) (.pair (.int .u8) (.pair (.int .u8) (.pair (.int .u8) (.pair (.int .i64) (.pair (.int .u8) (.pair (.int .i64) (.int .i64)))))))))))),
  (108, (.nsl (.nsl (.int .i64)))),
  (110, (.pair (.nsl (.nsl (.int .i64))) (.pair (.nsl (.nsl (.int .i64))) (.pair (.nsl (.nsl (.int .i64))) (.pair (.nsl (.nsl (.int .i64))) (.pair (.nsl (.nsl (.int .i64))) (.pair (.nsl (.nsl (.int .i64))) (.pair (.nsl (.nsl (.int .i64))) (.pair (.nsl (.nsl (.int .i64))) (.pair (.nsl (.nsl (.int .i64))) (.nsl (.nsl (.int .i64))))))))))))),
  (119, .fn),
  (120, .fn),
  (122, (.nsl .fn)),
  (125, (.pair .str (.pair (.int .u8) (.pair (.pair (.nsl .str) (.pair (.nsl .str) (.pair (.nsl .str) (.pair (.nsl .str) (.pair (.nsl .str) (.pair (.nsl .str) (.pair (.nsl .str) (.pair .bool (.pair (.int .i64) (.int .i64)))))))))) (.pair (.pair (.int .u8) (.pair .bool (.pair (.int .u8) (.pair (.int .i64) (.pair (.int .i64) (.pair (.int .i64) (.nsl .str))))))) (.pair (.nsl (.pair (.int .u8) (.pair (.int .i64) .str))) (.pair (.int .i64) (.pair (.int .i64) (.pair .bool (.pair .bool (.pair .bool .str))))))))))),
  (126, (.pair .str (.pair .str (.pair .str (.pair .str (.pair .str (.pair .str (.pair .str (.pair .str (.pair .str .str)))))))))),
  (128, (.pair (.int .u8) (.pair (.int .i64) .str))),
  (141, .fn),
  (145, (.pair .str (.pair (.int .u8) (.int .i64)))),
  (146, .fn),
  (153, (.nsl (.int .i64))),
  (155, (.nsl (.nsl (.nsl (.int .i64))))),
  (157, (.pair (.int .i64) (.int .i64))),
  (160, (.pair (.int .i64) (.int .u8))),
  (162, (.pair (.int .i64) (.pair (.pair (.int .i64) (.int .u8)) (.int .i64)))),
  (167, (.int .u64)),
  (175, .fn),
  (183, (.int .u64)),
  (187, (.pair (.int .u8) (.pair (.int .u8) (.pair (.int .u8) (.pair (.int .u8) (.pair (.int .u8) (.pair (.int .u8) (.pair (.int .u8) (.int .u8))))))))),
  (189, (.pair (.int .u64) (.pair (.int .u64) (.pair (.int .u64) (.int .u64))))),
  (191, (.pair (.pair (.int .u64) (.pair (.int .u64) (.pair (.int .u64) (.int .u64)))) (.pair (.pair (.int .u8) (.pair (.int .u8) (.pair (.int .u8) (.pair (.int .u8) (.pair (.int .u8) (.pair (.int .u8) (.pair (.int .u8) (.int .u8)))))))) (.int .i64)))),
  (195, (.int .i64)),
  (207, (.int .u64))]

def cmps : List (Nat × List TK) := [
  (63, [.int .u8, .int .i64, .int .i64]),
  (71, [.int .i64, .int .i64]),
  (82, [.int .u8, .int .i64, .int .i64, .str, .int .i64, .int .u8, .int .u8, .int .u8, .int .i64, .int .u8, .int .i64, .int .i64]),
  (128, [.int .u8, .int .i64, .str]),
  (145, [.str, .int .u8, .int .i64]),
  (160, [.int .i64, .int .u8]),
  (162, [.int .i64, .int .i64, .int .u8, .int .i64]),
  (189, [.int .u64, .int .u64, .int .u64, .int .u64])]

def keys : List (Nat × (List TK × Bool)) := [
  (9, ([.str], false)),
  (2, ([.int .i64], false)),
  (145, ([.str, .int .u8, .int .i64], true)),
  (5, ([.int .u8], false))]

def fns : List Nat := [5, 23, 24, 25, 26, 27, 38, 39, 40, 41, 42, 43, 44, 58, 59, 60, 61, 62, 63, 64, 65, 66, 67, 68, 69, 70, 71, 72, 73, 74, 75, 76, 77, 78, 84, 85, 86, 87, 88, 89, 90, 91, 92, 95, 96, 97, 98, 99, 100, 101, 102, 103, 104, 105, 106, 107, 108, 109, 110, 111, 112, 113, 114, 115, 116, 117, 118, 119, 120, 121, 122, 123, 124, 125, 126, 127, 128, 129]

noncomputable def E : Env where
  P := Try.prog
  ti t := luk tis t
  ty t := luk tys t
  ok f := fns.any fun g => Nat.beq g f
  cmp t := luk cmps t
  key t := luk keys t

theorem luk_all {α : Type} {f : Nat → Option α} : ∀ {l : List (Nat × α)}, l.map (fun p => f p.1) = l.map (fun p => some p.2) → ∀ {t : Nat} {i : α}, luk l t = some i → f t = some i
  | [], _, _, _, h => by cases h
  | (t, i) :: r, hp, u, j, h => by
    simp only [List.map_cons, List.cons.injEq] at hp
    rw [luk_cons] at h
    split at h
    · rename_i e
      subst e
      cases h
      exact hp.1
    · exact luk_all hp.2 h

theorem tis_ok : tis.map (fun p => tiOf Try.prog p.1) = tis.map (fun p => some p.2) := by kernel_rfl
theorem cmp_ok : cmps.map (fun p => plainCmp Try.prog p.1) = cmps.map (fun p => some p.2) := by kernel_rfl
theorem key_ok : keys.map (fun p => (flatK Try.prog 8 p.1).map fun k => (k, isAggB Try.prog p.1)) = keys.map (fun p => some p.2) := by kernel_rfl
theorem wf_ok : (fns.all fun f => wfF Try.prog f) = true := by kernel_rfl

theorem E_ok : EnvOk Try.prog E where
  prog := rfl
  ti _ _ h := luk_all (f := tiOf Try.prog) tis_ok h
  ok f h := by
    obtain ⟨g, hg, he⟩ := List.any_eq_true.1 h
    have := Nat.eq_of_beq_eq_true he
    subst this
    exact List.all_eq_true.1 wf_ok g hg
  cmp _ _ h := luk_all (f := plainCmp Try.prog) cmp_ok h
  key t ks ag h := by
    have := luk_all (f := fun t => (flatK Try.prog 8 t).map fun k => (k, isAggB Try.prog t)) key_ok h
    obtain ⟨k, h1, h2⟩ := Option.map_eq_some_iff.1 this
    cases h2
    exact ⟨h1, rfl⟩

end Go.VI.Spec
