/- PlainP: part 5 of the texts that the proof of plain_holds needs: an evaluator of the program on data, its soundness, the equations of the functions, the plain laws. Conditions: none. -/
import Derived.Test.YtadachfhgafdjaaGreatPlainP4
import Derived.Test.YtadachfhgafdjaaGreatProg
import Derived.KernelRfl
import Derived.Lib.Mul64
import Derived.IntWalk
set_option linter.unusedVariables false
namespace Go.Vm
open Go.Proofs
def tab : List (Nat × Hints) := [(3, { cuts := [(65488, { tm := [1, 7, 9, 11, 13, 14, 15], bx := [7168, 11264, 13312, 53249], tk := [], kb := [(7168, 48), (11264, 54), (13312, 54), (53249, 117)] })] }),
 (4, { cuts := [(8168, { tm := [5, 6, 7, 44, 45, 46], bx := [5120], tk := [], kt := [(44, 22)], kb := [(5120, 48)] })] }),
 (5, { cuts := [(1000, { tm := [3, 4, 5, 7, 59, 60, 61], bx := [7168], tk := [60416], kb := [(7168, 54)] }), (256408, { tm := [3, 4, 5, 7, 15, 59, 60, 61, 77, 78, 79], bx := [7168, 15360], tk := [60416, 78848], kb := [(7168, 54), (15360, 48)] }), (1050253816, { tm := [3, 4, 5, 7, 15, 17, 59, 60, 61, 77, 78, 79, 132, 133, 134], bx := [7168, 15360, 17408], tk := [60416, 78848, 135168], kb := [(7168, 54), (15360, 48)] })] }),
 (6, { cuts := [(8168, { tm := [5, 8, 82, 83, 84], bx := [5120], tk := [], kt := [(82, 28)], kb := [(5120, 48)] })] }),
 (8, { cuts := [(4072, { tm := [5, 6, 7, 9, 10, 11, 17, 18, 19, 93, 94, 95], bx := [9216, 10240, 11264, 18432, 19456, 78849], tk := [95232], kb := [(9216, 27), (10240, 32), (11264, 35), (18432, 27), (19456, 32), (78849, 117)] }), (2085672, { tm := [5, 6, 7, 9, 10, 11, 17, 18, 19, 21, 93, 94, 95, 107, 108, 109], bx := [9216, 10240, 11264, 18432, 19456, 21504, 78849], tk := [95232, 109568], kb := [(9216, 27), (10240, 32), (11264, 35), (18432, 27), (19456, 32), (21504, 48), (78849, 117)] })] }),
 (9, { cuts := [(131048, { tm := [5, 8, 10, 11, 12, 89, 90, 91], bx := [5120], tk := [12288], kt := [(89, 28)], kb := [(5120, 48)] }), (2147117048, { tm := [5, 8, 10, 11, 12, 13, 89, 90, 91, 155, 156, 157], bx := [5120], tk := [12288], kt := [(89, 28), (155, 92)], kb := [(5120, 48)] })], nils := [12] }),
 (10, { cuts := [(65200, { tm := [2, 3, 7, 8, 9, 10, 11], bx := [3072, 8192, 23553], tk := [9216], fz := [9216], kt := [(2, 98)], kb := [(3072, 48), (8192, 48), (23553, 117)] })], nils := [9] }),
 (17, { cuts := [(464, { tm := [0, 1, 2, 6, 7, 8], bx := [0, 6144, 7168], tk := [23552], kb := [(0, 117), (6144, 54), (7168, 54)], nb := [(7168, 1, 23552, 21)] })] }),
 (23, { cuts := [(464, { tm := [0, 1, 2, 3, 8, 9, 10], bx := [8192, 9216], tk := [45056], kb := [(8192, 54), (9216, 54)], nb := [(9216, 1, 45056, 21)] }), (29840, { tm := [0, 1, 2, 3, 8, 9, 10, 11], bx := [8192, 9216], tk := [45056], kb := [(8192, 54), (9216, 54)], nb := [(9216, 1, 45056, 21)] })] }),
 (35, { cuts := [(976, { tm := [2, 3, 4, 5, 6, 7, 8, 15, 16], bx := [7168, 8192], tk := [15360], kb := [(7168, 35), (8192, 39)] }), (1000, { tm := [2, 3, 4, 8, 15, 93, 94], bx := [8192], tk := [15360], kb := [(8192, 39)] }), (256408, { tm := [2, 3, 4, 8, 15, 17, 93, 94, 100, 101], bx := [8192], tk := [15360], kb := [(8192, 39)] })], nils := [15] }),
 (36, { cuts := [(464, { tm := [1, 2, 5, 6], bx := [2048], tk := [5120], kb := [(2048, 48)] })], nils := [4, 5] }),
 (37, { cuts := [(232, { tm := [13, 14, 15], bx := [], tk := [], kt := [(13, 25)] }), (119608, { tm := [13, 14, 15, 36, 37, 38], bx := [], tk := [], kt := [(13, 25), (36, 108)] })] }),
 (49, { cuts := [(976, { tm := [0, 2, 3, 5, 6], bx := [0, 2048, 3072], tk := [], kb := [(0, 117), (2048, 35), (3072, 35)] })] }),
 (53, { cuts := [(232, { tm := [1, 2, 3, 12, 13, 14], bx := [1024, 2048], tk := [3072], ren := [(3072, 3)], kt := [(12, 25)], kb := [(1024, 48), (2048, 48)] }), (478440, { tm := [1, 2, 3, 4, 5, 12, 13, 14, 36, 37, 38], bx := [1024, 2048, 5120], tk := [3072, 36864], ren := [(3072, 3), (36864, 36)], kt := [(12, 25)], kb := [(1024, 48), (2048, 48), (5120, 110)] })], keep := [11, 33] }),
 (59, { cuts := [(232, { tm := [32, 33, 34], bx := [], tk := [], kt := [(32, 42)] })] }),
 (61, { cuts := [(488, { tm := [3, 4, 6, 7, 12, 13, 14], bx := [3072, 4096, 6144], tk := [], kt := [(12, 25)], kb := [(3072, 32), (4096, 32), (6144, 32)] })] }),
 (70, { cuts := [(232, { tm := [2, 3, 15, 16], bx := [2048, 3072], tk := [], kb := [(2048, 35), (3072, 35)] })] }),
 (72, { cuts := [(232, { tm := [0, 1, 12, 13], bx := [], tk := [], kt := [(0, 42), (1, 42)] })] }),
 (74, { cuts := [(96, { tm := [0, 1], bx := [], tk := [] })] }),
 (75, { cuts := [(104, { tm := [1, 6, 7, 8], bx := [1024], tk := [], kt := [(6, 33)], kb := [(1024, 35)] })] }),
 (77, { cuts := [(232, { tm := [1, 2, 5, 12, 13, 14], bx := [2048], tk := [], kt := [(12, 33)], kb := [(2048, 35)] })] }),
 (80, { cuts := [(464, { tm := [0, 7, 8], bx := [0], tk := [7168], kb := [(0, 117)] })], nils := [6, 7] }),
 (94, { cuts := [(104, { tm := [3, 8, 9, 10], bx := [3072], tk := [], kt := [(8, 25)], kb := [(3072, 32)] })] }),
 (97, { cuts := [(104, { tm := [1, 6, 7, 8], bx := [1024], tk := [], kt := [(6, 33)], kb := [(1024, 35)] })] }),
 (99, { spec := [(8, 100000)] }),
 (110, { cuts := [(16360, { tm := [5, 11, 13, 14, 15, 16, 17, 76, 77, 78], bx := [5120, 13312, 14336, 15360, 16384], tk := [17408], ren := [(17408, 17)], kt := [(76, 98)], kb := [(5120, 39), (13312, 212), (14336, 212), (15360, 212), (16384, 212)] }), (67017208, { tm := [5, 11, 13, 14, 15, 16, 17, 76, 77, 78, 137, 138, 139], bx := [5120, 13312, 14336, 15360, 16384], tk := [17408, 140288], ren := [(17408, 17), (140288, 137)], kt := [(76, 98)], kb := [(5120, 39), (13312, 212), (14336, 212), (15360, 212), (16384, 212)] })] }),
 (111, { cuts := [(232, { tm := [2, 3, 4, 5, 6, 65, 66, 67], bx := [5120, 6144], tk := [], kt := [(4, 98), (65, 98)], kb := [(5120, 39), (6144, 39)] }), (1000, { tm := [2, 3, 4, 5, 13, 14, 15, 100, 101], bx := [5120], tk := [], kt := [(4, 98)], kb := [(5120, 39)] }), (512824, { tm := [2, 3, 4, 5, 13, 14, 15, 17, 18, 100, 101, 106, 107, 108], bx := [5120], tk := [], kt := [(4, 98), (106, 98)], kb := [(5120, 39)] })] }),
 (112, { fresh := [(0, 110)], nils := [2] }),
 (113, { fresh := [(0, 104)], nils := [2] }),
 (114, { fresh := [(0, 28)], nils := [2] }),
 (115, { fresh := [(0, 3)], nils := [2] }),
 (116, { fresh := [(0, 112)], nils := [2] }),
 (117, { fresh := [(0, 21)], nils := [2] }),
 (120, { cuts := [(232, { tm := [32, 33, 34], bx := [], tk := [], kt := [(32, 42)] })] }),
 (122, { keep := [58] }),
 (125, { cuts := [(464, { tm := [2, 3, 4, 5, 6], bx := [2048, 3072, 4096, 5120], tk := [], kb := [(2048, 110), (3072, 32), (4096, 32), (5120, 32)] }), (2024, { tm := [3, 4, 5, 58, 59, 60], bx := [3072, 4096, 5120], tk := [], kt := [(58, 108)], kb := [(3072, 32), (4096, 32), (5120, 32)] })] }),
 (132, { cuts := [(992, { tm := [1, 2, 6, 7], bx := [2048], tk := [], kb := [(2048, 41)] })] }),
 (133, { fresh := [(1, 21)], keep := [46] }),
 (134, { cuts := [(232, { tm := [0, 1, 12, 13], bx := [], tk := [], kt := [(0, 25), (1, 25)] })] }),
 (140, { cuts := [(1048544, { tm := [2, 8, 9, 10, 11, 13, 14, 15, 16], bx := [], tk := [] }), (16777184, { tm := [2, 8, 9, 10, 14, 15, 16, 17, 18], bx := [], tk := [] })] }),
 (141, { cuts := [(464, { tm := [0, 2, 3, 4], bx := [0, 2048, 3072], tk := [88064], kb := [(0, 117), (2048, 110), (3072, 110)], nb := [(3072, 2, 88064, 28)] }), (4048, { tm := [0, 2, 3, 5], bx := [0, 2048, 3072], tk := [88064], kb := [(0, 117), (2048, 110), (3072, 110)], nb := [(3072, 2, 88064, 28)] }), (1036904, { tm := [0, 2, 3, 5, 6, 7, 56, 57, 58], bx := [0, 2048, 3072], tk := [88064], kt := [(6, 28), (56, 108)], kb := [(0, 117), (2048, 110), (3072, 110)], nb := [(3072, 2, 88064, 28)] })] }),
 (142, { nils := [0] }),
 (148, { cuts := [(208, { tm := [0, 3], bx := [], tk := [] })] }),
 (149, { cuts := [(104, { tm := [0, 5, 6, 7], bx := [], tk := [], kt := [(0, 25), (5, 25)] })] }),
 (151, { cuts := [(104, { tm := [0, 8, 9], bx := [], tk := [] })] }),
 (152, { spec := [(8, 100001)] }),
 (156, { free := [.r 32] }),
 (158, { spec := [(8, 100002)] }),
 (159, { spec := [(7, 100003)] }),
 (188, { spec := [(18, 100004)] }),
 (189, { fresh := [(1, 21)], keep := [37] }),
 (192, { cuts := [(232, { tm := [1, 6, 7, 12, 13, 14], bx := [], tk := [], kt := [(12, 105)] })] }),
 (193, { cuts := [(1000, { tm := [1, 2, 47, 48], bx := [], tk := [], kt := [(1, 28), (2, 28)] })] }),
 (200, { cuts := [(976, { tm := [1, 2, 4, 5, 6, 7], bx := [2048, 4096, 5120], tk := [82944], kb := [(2048, 44), (4096, 54), (5120, 54)], nb := [(5120, 1, 82944, 21)] }), (500976, { tm := [1, 2, 4, 5, 6, 7, 9, 12, 13, 14], bx := [2048, 4096, 5120], tk := [82944], kb := [(2048, 44), (4096, 54), (5120, 54)], nb := [(5120, 1, 82944, 21)] })], fresh := [(1, 21)] }),
 (201, { cuts := [(232, { tm := [2, 3, 38, 39], bx := [2048, 3072], tk := [], kb := [(2048, 110), (3072, 110)] })] }),
 (202, { cuts := [(232, { tm := [0, 1, 12, 13], bx := [], tk := [], kt := [(0, 28), (1, 28)] })] }),
 (205, { cuts := [(232, { tm := [0, 1, 4, 5, 10, 11, 12], bx := [0, 4096], tk := [5120], fz := [5120], kt := [(1, 105), (10, 105)], kb := [(0, 117), (4096, 107)] })], nils := [5] }),
 (206, { cuts := [(96, { tm := [0, 1], bx := [], tk := [] })] }),
 (208, { cuts := [(232, { tm := [1, 27, 28, 29], bx := [1024], tk := [], kt := [(27, 108)], kb := [(1024, 110)] })] }),
 (209, { cuts := [(104, { tm := [1, 8, 9, 10], bx := [], tk := [], kt := [(8, 105)] })] }),
 (210, { cuts := [(104, { tm := [1, 7, 8, 9], bx := [], tk := [], kt := [(1, 28), (7, 108)] })] }),
 (212, { cuts := [(232, { tm := [1, 27, 28, 29], bx := [1024], tk := [], kt := [(27, 108)], kb := [(1024, 110)] })] }),
 (216, { free := [.r 3] }),
 (218, { free := [.r 28] }),
 (222, { cuts := [(232, { tm := [0, 3, 9, 10, 11], bx := [], tk := [], kt := [(0, 277), (9, 277)] }), (1000, { tm := [6, 25, 26, 27], bx := [], tk := [6144], ren := [(6144, 6)], kt := [(25, 277)] })], keep := [24], nils := [2], spec := [(24, 100005)] }),
 (231, { free := [.r 37] }),
 (233, { free := [.r 41, .r 2] }),
 (237, { cuts := [(2024, { tm := [2, 4, 5, 7, 9, 10, 47, 48], bx := [2048, 4096, 5120, 7168, 10240], tk := [46080], kb := [(2048, 44), (4096, 54), (5120, 44), (7168, 41), (10240, 54)], nb := [(10240, 1, 46080, 21)] }), (4148472, { tm := [2, 4, 5, 7, 9, 10, 13, 16, 17, 47, 48, 72, 73], bx := [2048, 4096, 5120, 7168, 10240], tk := [46080], kt := [(16, 42), (17, 42)], kb := [(2048, 44), (4096, 54), (5120, 44), (7168, 41), (10240, 54)], nb := [(10240, 1, 46080, 21)] })], fresh := [(1, 21)] }),
 (241, { cuts := [(232, { tm := [1, 5, 8, 9, 10], bx := [], tk := [5120], kt := [(1, 28), (8, 28)] })], nils := [4, 5] }),
 (243, { cuts := [(56, { tm := [0, 1, 3, 8, 9, 10], bx := [1024], tk := [], kt := [(8, 33)], kb := [(1024, 35)] })], free := [.r 35] }),
 (249, { cuts := [(232, { tm := [2, 3, 15, 16], bx := [2048, 3072], tk := [], kb := [(2048, 107), (3072, 107)] })] }),
 (251, { cuts := [(104, { tm := [0, 2, 7, 8, 9], bx := [2048], tk := [], kt := [(0, 105), (7, 105)], kb := [(2048, 107)] })] }),
 (252, { cuts := [(104, { tm := [0, 5, 6, 7], bx := [], tk := [], kt := [(0, 28), (5, 28)] })] }),
 (255, { cuts := [(232, { tm := [0, 13, 14, 15], bx := [], tk := [], kt := [(0, 28), (13, 28)] })] }),
 (257, { cuts := [(104, { tm := [1, 6, 7, 8], bx := [1024], tk := [], kt := [(6, 105)], kb := [(1024, 107)] })] }),
 (259, { cuts := [(232, { tm := [0, 1, 12, 13], bx := [], tk := [], kt := [(0, 28), (1, 28)] })] }),
 (260, { nils := [4] }),
 (267, { cuts := [(104, { tm := [1, 6, 7, 8], bx := [1024], tk := [], kt := [(6, 105)], kb := [(1024, 107)] })] }),
 (268, { cuts := [(104, { tm := [1, 7, 8, 9], bx := [], tk := [], kt := [(7, 28)] })] }),
 (271, { cuts := [(232, { tm := [3, 4, 11, 12, 13], bx := [], tk := [3072, 4096], ren := [(3072, 3)], kt := [(11, 105)] }), (488, { tm := [4, 46, 47, 48], bx := [], tk := [4096, 47104], ren := [(47104, 46)] }), (239200, { tm := [3, 4, 6, 7, 11, 12, 13], bx := [6144], tk := [3072, 4096], ren := [(3072, 3)], kt := [(11, 105)], kb := [(6144, 104)] })], nils := [2, 3, 4] }),
 (274, { cuts := [(104, { tm := [0, 1, 7, 8], bx := [], tk := [], kt := [(0, 28)] })] }),
 (100000, { base := some 154, fns := [(1, 156, 156, [2])], ext := [.r 32], spec := [(7, 100006)] }),
 (100001, { base := some 154, fns := [(1, 211, 211, [])], spec := [(7, 100007)] }),
 (100002, { base := some 214, fns := [(1, 216, 216, [2])], ext := [.r 3], spec := [(7, 100008)] }),
 (100003, { base := some 217, fns := [(1, 218, 218, [2])], ext := [.r 28], spec := [(7, 100009)] }),
 (100004, { cuts := [(224, { tm := [1, 5, 6], bx := [2048, 3072], tk := [], kb := [(2048, 41)] })], base := some 232, fns := [(1, 233, 233, [2, 3])], ext := [.r 41, .r 2] }),
 (100005, { fresh := [(0, 21)], niln := [0], trunc := [25], nils := [4], base := some 260 }),
 (100006, { cuts := [(104, { tm := [0, 1, 7, 8], bx := [2048], tk := [], kt := [(0, 25)], kb := [(2048, 32)] })], base := some 213, fns := [(1, 156, 156, [2])], ext := [.r 32] }),
 (100007, { cuts := [(104, { tm := [0, 1, 7, 8], bx := [], tk := [], kt := [(0, 25)] })], base := some 213, fns := [(1, 211, 211, [])] }),
 (100008, { cuts := [(104, { tm := [0, 1, 7, 8], bx := [2048], tk := [], kt := [(0, 105)] })], base := some 256, fns := [(1, 216, 216, [2])], ext := [.r 3] }),
 (100009, { cuts := [(104, { tm := [0, 1, 7, 8], bx := [2048], tk := [], kt := [(0, 108)], kb := [(2048, 28)] })], base := some 258, fns := [(1, 218, 218, [2])], ext := [.r 28] }),
 (127, { orc := some (posO 196) })]
def HH : FuncId → Hints := fun f => match look f tab with | some h => h | none => {}
noncomputable def Cf (f : FuncId) (xs : List Arg) : Option (List D) := callL Tryz.prog HH f xs
noncomputable def Kf (f : FuncId) (p : Nat) (l : Lv) : Option (List D) := kontL Tryz.prog HH f p l
noncomputable def XX (f : Nat) : Env := ⟨Tryz.prog, HH, Cf, Kf f, f⟩
theorem Cf_eq (f : FuncId) (xs : List Arg) : Cf f xs = start (XX f) xs := callL_eq f xs
def len8tab : List UInt8 := [0, 1, 2, 2, 3, 3, 3, 3, 4, 4, 4, 4, 4, 4, 4, 4, 5, 5, 5, 5, 5, 5, 5, 5, 5, 5, 5, 5, 5, 5, 5, 5, 6, 6, 6, 6, 6, 6, 6, 6, 6, 6, 6, 6, 6, 6, 6, 6, 6, 6, 6, 6, 6, 6, 6, 6, 6, 6, 6, 6, 6, 6, 6, 6, 7, 7, 7, 7, 7, 7, 7, 7, 7, 7, 7, 7, 7, 7, 7, 7, 7, 7, 7, 7, 7, 7, 7, 7, 7, 7, 7, 7, 7, 7, 7, 7, 7, 7, 7, 7, 7, 7, 7, 7, 7, 7, 7, 7, 7, 7, 7, 7, 7, 7, 7, 7, 7, 7, 7, 7, 7, 7, 7, 7, 7, 7, 7, 7, 8, 8, 8, 8, 8, 8, 8, 8, 8, 8, 8, 8, 8, 8, 8, 8, 8, 8, 8, 8, 8, 8, 8, 8, 8, 8, 8, 8, 8, 8, 8, 8, 8, 8, 8, 8, 8, 8, 8, 8, 8, 8, 8, 8, 8, 8, 8, 8, 8, 8, 8, 8, 8, 8, 8, 8, 8, 8, 8, 8, 8, 8, 8, 8, 8, 8, 8, 8, 8, 8, 8, 8, 8, 8, 8, 8, 8, 8, 8, 8, 8, 8, 8, 8, 8, 8, 8, 8, 8, 8, 8, 8, 8, 8, 8, 8, 8, 8, 8, 8, 8, 8, 8, 8, 8, 8, 8, 8, 8, 8, 8, 8, 8, 8, 8, 8, 8, 8, 8, 8, 8, 8, 8, 8, 8, 8, 8, 8]
theorem Kf_eq (f : FuncId) (p : Nat) (l : Lv) : Kf f p l = bodyAt (XX f) p l := kontL_eq f p l
noncomputable def ref04_Silence (a b : Int) : Option (List D) := Cf 14 [Arg.v [D.int IntKind.i64 a], Arg.v [D.int IntKind.i64 b]]
noncomputable def law21_begins (a b : Y.Block) : Option (List D) := Cf 20 [Arg.v a.enc, Arg.v b.enc]
noncomputable def made_Dice_Sample (a : Y.Made_Dice) : Option (List D) := Cf 56 [Arg.r a.enc]
noncomputable def ref03_gcd (a b : Int) : Option (List D) := Cf 74 [Arg.v [D.int IntKind.i64 a], Arg.v [D.int IntKind.i64 b]]
noncomputable def ref03_gcd_k96 (n0 n1 : Int) : Option (List D) := Kf 74 96 (Lv.mk [V.one (C.d (D.int IntKind.i64 n0)), V.one (C.d (D.int IntKind.i64 n1))] [] [])
noncomputable def made_Boxes (a : Y.Made_Dice) (b c : Int) : Option (List D) := Cf 80 [Arg.r a.enc, Arg.v [D.int IntKind.i64 b], Arg.v [D.int IntKind.i64 c]]
noncomputable def made_Boxes_k464 (n0 : Int) (x1 : Y.Made_Dice) (r2 : List (List D)) : Option (List D) := Kf 80 464 (Lv.mk [V.one (C.ptr 0 0 0), V.one (C.own 7168 0), V.one (C.d (D.int IntKind.i64 n0))] [[C.d (D.list 1 x1.L)]] [Tk.mk 0 false 110 4 r2])
noncomputable def device_unit_inputs (a : Y.Device_unit) : Option (List D) := Cf 86 [Arg.v a.enc]
noncomputable def device_unit_set (a : Y.Device_unit) : Option (List D) := Cf 98 [Arg.v a.enc]
noncomputable def slices_Clone_G_api_Segment_api_Segment (a : List (List D)) : Option (List D) := Cf 116 [Arg.v [D.list 3 a]]
noncomputable def bridge_Pull (a : Y.Bridge) (b : Int) : Option (List D) := Cf 122 [Arg.v a.enc, Arg.v [D.int IntKind.i64 b]]
noncomputable def bridge_Valid (a : Y.Bridge) : Option (List D) := Cf 128 [Arg.v a.enc]
noncomputable def bits_Div64 (a b c : Int) : Option (List D) := Cf 140 [Arg.v [D.int IntKind.u64 a], Arg.v [D.int IntKind.u64 b], Arg.v [D.int IntKind.u64 c]]
noncomputable def bits_Div64_k1048544 (n0 n1 n2 n3 n4 n5 n6 n7 n8 : Int) : Option (List D) := Kf 140 1048544 (Lv.mk [V.one (C.d (D.int IntKind.u64 n0)), V.one (C.d (D.int IntKind.u64 n1)), V.one (C.d (D.int IntKind.u64 n2)), V.one (C.d (D.int IntKind.u64 n3)), V.one (C.d (D.int IntKind.u64 n4)), V.one (C.d (D.int IntKind.u64 n5)), V.one (C.d (D.int IntKind.u64 n6)), V.one (C.d (D.int IntKind.u64 n7)), V.one (C.d (D.int IntKind.u64 n8))] [] [])
noncomputable def bits_Div64_k16777184 (n0 n1 n2 n3 n4 n5 n6 n7 n8 : Int) : Option (List D) := Kf 140 16777184 (Lv.mk [V.one (C.d (D.int IntKind.u64 n0)), V.one (C.d (D.int IntKind.u64 n1)), V.one (C.d (D.int IntKind.u64 n2)), V.one (C.d (D.int IntKind.u64 n3)), V.one (C.d (D.int IntKind.u64 n4)), V.one (C.d (D.int IntKind.u64 n5)), V.one (C.d (D.int IntKind.u64 n6)), V.one (C.d (D.int IntKind.u64 n7)), V.one (C.d (D.int IntKind.u64 n8))] [] [])
noncomputable def ratio_divide (a : Int) (b : Y.Ratio) : Option (List D) := Cf 146 [Arg.v [D.int IntKind.i64 a], Arg.v b.enc]
noncomputable def offer_Valid (a : List (List D)) : Option (List D) := Cf 152 [Arg.v [D.list 4 a]]
noncomputable def offer_has (a b : List (List D)) : Option (List D) := Cf 159 [Arg.v [D.list 1 a], Arg.v [D.list 1 b]]
noncomputable def resample_New (a : Int) (b : Y.Ratio) : Option (List D) := Cf 165 [Arg.v [D.int IntKind.i64 a], Arg.v b.enc]
noncomputable def ref15_block (a : Y.Resampler) : Option (List D) := Cf 183 [Arg.v a.enc]
noncomputable def resample_Take (a : Y.Resampler) (b : Int) : Option (List D) := Cf 189 [Arg.v a.enc, Arg.v [D.int IntKind.i64 b]]
noncomputable def intset_spans (a : Y.IntSet) : Option (List D) := Cf 215 [Arg.v a.enc]
noncomputable def phase_tuned (a : Int) : Option (List D) := Cf 230 [Arg.v [D.int IntKind.i64 a]]
noncomputable def resample_produce (a : Y.Resampler) (b : Int) : Option (List D) := Cf 237 [Arg.v a.enc, Arg.v [D.int IntKind.i64 b]]
noncomputable def resample_produce_k2024 (n0 n1 n2 : Int) (x3 : Y.Resampler) (x4 : Y.Block) (x5 : Y.Resampler) (x6 : Y.Phase) (n7 : Int) (r8 : List (List D)) : Option (List D) := Kf 237 2024 (Lv.mk [V.one (C.ptr 2048 0 0), V.one (C.ptr 4096 0 0), V.one (C.ptr 5120 0 0), V.one (C.ptr 7168 0 0), V.one (C.d (D.int IntKind.i64 n0)), V.one (C.ptr 10240 0 0), V.one (C.d (D.int IntKind.i64 n1)), V.one (C.d (D.int IntKind.i64 n2))] [[C.d (D.int IntKind.i64 x3.Channels), C.d (D.int IntKind.i64 x3.Phase.Base.Num), C.d (D.int IntKind.i64 x3.Phase.Base.Den), C.d (D.int IntKind.i64 x3.Phase.Adjust), C.d (D.int IntKind.i64 x3.Phase.Pos), C.d (D.int IntKind.i64 x3.Phase.Frac), C.d (D.list 1 x3.Rest)], [C.d (D.int IntKind.i64 x4.Channels), C.d (D.list 1 x4.Data)], [C.d (D.int IntKind.i64 x5.Channels), C.d (D.int IntKind.i64 x5.Phase.Base.Num), C.d (D.int IntKind.i64 x5.Phase.Base.Den), C.d (D.int IntKind.i64 x5.Phase.Adjust), C.d (D.int IntKind.i64 x5.Phase.Pos), C.d (D.int IntKind.i64 x5.Phase.Frac), C.d (D.list 1 x5.Rest)], [C.d (D.int IntKind.i64 x6.Base.Num), C.d (D.int IntKind.i64 x6.Base.Den), C.d (D.int IntKind.i64 x6.Adjust), C.d (D.int IntKind.i64 x6.Pos), C.d (D.int IntKind.i64 x6.Frac)], [C.d (D.int IntKind.i64 n7), C.own 46080 0]] [Tk.mk 0 false 21 1 r8])
noncomputable def resample_produce_k4148472 (n0 n1 : Int) (l2 l3 : List (List D)) (n4 n5 n6 n7 : Int) (x8 : Y.Resampler) (x9 : Y.Block) (x10 : Y.Resampler) (x11 : Y.Phase) (n12 : Int) (r13 : List (List D)) : Option (List D) := Kf 237 4148472 (Lv.mk [V.one (C.ptr 2048 0 0), V.one (C.ptr 4096 0 0), V.one (C.ptr 5120 0 0), V.one (C.ptr 7168 0 0), V.one (C.d (D.int IntKind.i64 n0)), V.one (C.ptr 10240 0 0), V.one (C.d (D.int IntKind.i64 n1)), V.one (C.d (D.list 1 l2)), V.one (C.d (D.list 1 l3)), V.one (C.d (D.int IntKind.i64 n4)), V.one (C.d (D.int IntKind.i64 n5)), V.one (C.d (D.int IntKind.i64 n6)), V.one (C.d (D.int IntKind.i64 n7))] [[C.d (D.int IntKind.i64 x8.Channels), C.d (D.int IntKind.i64 x8.Phase.Base.Num), C.d (D.int IntKind.i64 x8.Phase.Base.Den), C.d (D.int IntKind.i64 x8.Phase.Adjust), C.d (D.int IntKind.i64 x8.Phase.Pos), C.d (D.int IntKind.i64 x8.Phase.Frac), C.d (D.list 1 x8.Rest)], [C.d (D.int IntKind.i64 x9.Channels), C.d (D.list 1 x9.Data)], [C.d (D.int IntKind.i64 x10.Channels), C.d (D.int IntKind.i64 x10.Phase.Base.Num), C.d (D.int IntKind.i64 x10.Phase.Base.Den), C.d (D.int IntKind.i64 x10.Phase.Adjust), C.d (D.int IntKind.i64 x10.Phase.Pos), C.d (D.int IntKind.i64 x10.Phase.Frac), C.d (D.list 1 x10.Rest)], [C.d (D.int IntKind.i64 x11.Base.Num), C.d (D.int IntKind.i64 x11.Base.Den), C.d (D.int IntKind.i64 x11.Adjust), C.d (D.int IntKind.i64 x11.Pos), C.d (D.int IntKind.i64 x11.Frac)], [C.d (D.int IntKind.i64 n12), C.own 46080 0]] [Tk.mk 0 false 21 1 r13])
noncomputable def channels_Valid (a : List (List D)) : Option (List D) := Cf 255 [Arg.v [D.list 1 a]]
noncomputable def channels_Valid_k232 (l0 l1 : List (List D)) (n2 n3 : Int) : Option (List D) := Kf 255 232 (Lv.mk [V.one (C.d (D.list 1 l0)), V.one (C.d (D.list 1 l1)), V.one (C.d (D.int IntKind.i64 n2)), V.one (C.d (D.int IntKind.i64 n3))] [] [])
noncomputable def phase_check (a : Y.Phase) (b : Int) : Option (List D) := Cf 263 [Arg.v a.enc, Arg.v [D.int IntKind.i64 b]]
noncomputable def ratio_both (a : Int) (b : Y.Ratio) : Option (List D) := Cf 269 [Arg.v [D.int IntKind.i64 a], Arg.v b.enc]
noncomputable def slices_ContainsFunc_G__offer_Has_1 (a : List (List D)) (c : Y.Choice) : Option (List D) := Cf 100000 [Arg.v [D.list 4 a], Arg.v [], Arg.r c.enc]
noncomputable def slices_IndexFunc_G__offer_Has_1 (a : List (List D)) (c : Y.Choice) : Option (List D) := Cf 100006 [Arg.v [D.list 4 a], Arg.v [], Arg.r c.enc]
noncomputable def slices_IndexFunc_G__offer_Has_1_k104 (l0 : List (List D)) (n1 n2 : Int) (x3 : Y.Choice) : Option (List D) := Kf 100006 104 (Lv.mk [V.one (C.d (D.list 4 l0)), V.one (C.fn 156 156 [Cap.p 2048 0]), V.one (C.d (D.int IntKind.i64 n1)), V.one (C.d (D.int IntKind.i64 n2))] [[C.d (D.int IntKind.i64 x3.Format.Kind), C.d (D.int IntKind.i64 x3.Format.Rate), C.d (D.list 1 x3.Format.Map), C.d (D.int IntKind.i64 x3.Size)]] [])
noncomputable def law21_DevicePlain (a : List (List D)) (b c : Int) : Option (List D) := Cf 3 [Arg.v [D.list 1 a], Arg.v [D.int IntKind.u8 b], Arg.v [D.int IntKind.u8 c]]
noncomputable def law21_DevicePlain_k65488 (n0 n1 n2 : Int) (x3 : Y.Device) (x4 x5 : Y.Block) (x6 : Y.Made_Dice) : Option (List D) := Kf 3 65488 (Lv.mk [V.one (C.d (D.int IntKind.u8 n0)), V.one (C.ptr 7168 0 0), V.one (C.d (D.int IntKind.i64 n1)), V.one (C.ptr 11264 0 0), V.one (C.ptr 13312 0 0), V.one (C.ptr 53249 0 0), V.one (C.d (D.int IntKind.i64 n2))] [[C.d (D.int IntKind.u64 x3.Descriptor.ID), C.d (D.str x3.Descriptor.Name), C.d (D.int IntKind.i64 x3.Descriptor.Direction), C.d (D.int IntKind.i64 x3.Descriptor.Domain), C.d (D.int IntKind.i64 x3.Descriptor.Latency), C.d (D.int IntKind.i64 x3.Descriptor.Drift), C.d (D.int IntKind.i64 x3.Descriptor.Jitter), C.d (D.list 4 x3.Descriptor.Boxes), C.d (D.int IntKind.i64 x3.Choice.Format.Kind), C.d (D.int IntKind.i64 x3.Choice.Format.Rate), C.d (D.list 1 x3.Choice.Format.Map), C.d (D.int IntKind.i64 x3.Choice.Size), C.d (D.int IntKind.i64 x3.Rate), C.d (D.int IntKind.i64 x3.Period), C.d (D.list 3 x3.Clock.Segments), C.d (D.bool x3.Running), C.d (D.int IntKind.i64 x3.Since), C.d (D.int IntKind.i64 x3.Bridge.Capacity), C.d (D.int IntKind.i64 x3.Bridge.Control.Target), C.d (D.int IntKind.i64 x3.Bridge.Control.Dead), C.d (D.int IntKind.i64 x3.Bridge.Control.Gain), C.d (D.int IntKind.i64 x3.Bridge.Control.Most), C.d (D.int IntKind.i64 x3.Bridge.Resample.Channels), C.d (D.int IntKind.i64 x3.Bridge.Resample.Phase.Base.Num), C.d (D.int IntKind.i64 x3.Bridge.Resample.Phase.Base.Den), C.d (D.int IntKind.i64 x3.Bridge.Resample.Phase.Adjust), C.d (D.int IntKind.i64 x3.Bridge.Resample.Phase.Pos), C.d (D.int IntKind.i64 x3.Bridge.Resample.Phase.Frac), C.d (D.list 1 x3.Bridge.Resample.Rest), C.d (D.int IntKind.i64 x3.Bridge.Lost), C.d (D.int IntKind.i64 x3.Bridge.Missed)], [C.d (D.int IntKind.i64 x4.Channels), C.d (D.list 1 x4.Data)], [C.d (D.int IntKind.i64 x5.Channels), C.d (D.list 1 x5.Data)], [C.d (D.list 1 x6.L)]] [])
noncomputable def ref19_Fill (a : Y.Bridge) : Option (List D) := Cf 15 [Arg.v a.enc]
noncomputable def ref04_Frames (a : Y.Block) : Option (List D) := Cf 21 [Arg.v a.enc]
noncomputable def made_Descriptor (a : Y.Made_Dice) (b : Int) : Option (List D) := Cf 39 [Arg.r a.enc, Arg.v [D.int IntKind.i64 b]]
noncomputable def device_check (a : Y.Device) (b : Int) (c : Y.Block) (d e : Int) : Option (List D) := Cf 57 [Arg.v a.enc, Arg.v [D.int IntKind.i64 b], Arg.v c.enc, Arg.v [D.int IntKind.i64 d], Arg.v [D.int IntKind.i64 e]]
noncomputable def clock_Between (a : Y.Clock) (b c : Int) : Option (List D) := Cf 63 [Arg.v a.enc, Arg.v [D.int IntKind.i64 b], Arg.v [D.int IntKind.i64 c]]
noncomputable def made_Map (a : Y.Made_Dice) : Option (List D) := Cf 81 [Arg.r a.enc]
noncomputable def device_unit_jitter (a : Y.Device_unit) : Option (List D) := Cf 87 [Arg.v a.enc]
noncomputable def offer_Has (a : List (List D)) (b : Y.Choice) : Option (List D) := Cf 99 [Arg.v [D.list 4 a], Arg.v b.enc]
noncomputable def slices_Clone_G_int32_int32 (a : List (List D)) : Option (List D) := Cf 117 [Arg.v [D.list 1 a]]
noncomputable def ref04_sample (a : Int) : Option (List D) := Cf 123 [Arg.v [D.int IntKind.i32 a]]
noncomputable def made_Box (a : Y.Made_Dice) : Option (List D) := Cf 141 [Arg.r a.enc]
noncomputable def made_Box_k464 (n0 : Int) (x1 : Y.Made_Dice) (x2 : Y.Box) (n3 : Int) (x4 x5 : Y.IntSet) (r6 : List (List D)) : Option (List D) := Kf 141 464 (Lv.mk [V.one (C.ptr 0 0 0), V.one (C.ptr 2048 0 0), V.one (C.ptr 3072 0 0), V.one (C.d (D.int IntKind.i64 n0))] [[C.d (D.list 1 x1.L)], [C.d (D.int IntKind.i64 x2.Kinds), C.d (D.list 2 x2.Rates.Spans), C.d (D.list 1 x2.Maps), C.d (D.list 2 x2.Sizes.Spans)], [C.d (D.int IntKind.i64 n3), C.d (D.list 2 x4.Spans), C.own 88064 0, C.d (D.list 2 x5.Spans)]] [Tk.mk 0 false 28 1 r6])
noncomputable def made_Box_k4048 (n0 : Int) (x1 : Y.Made_Dice) (x2 : Y.Box) (n3 : Int) (x4 x5 : Y.IntSet) (r6 : List (List D)) : Option (List D) := Kf 141 4048 (Lv.mk [V.one (C.ptr 0 0 0), V.one (C.ptr 2048 0 0), V.one (C.ptr 3072 0 0), V.one (C.d (D.int IntKind.i64 n0))] [[C.d (D.list 1 x1.L)], [C.d (D.int IntKind.i64 x2.Kinds), C.d (D.list 2 x2.Rates.Spans), C.d (D.list 1 x2.Maps), C.d (D.list 2 x2.Sizes.Spans)], [C.d (D.int IntKind.i64 n3), C.d (D.list 2 x4.Spans), C.own 88064 0, C.d (D.list 2 x5.Spans)]] [Tk.mk 0 false 28 1 r6])
noncomputable def made_Box_k1036904 (n0 : Int) (l1 : List (List D)) (b2 : Bool) (n3 n4 : Int) (x5 : Y.Made_Dice) (x6 : Y.Box) (n7 : Int) (x8 x9 : Y.IntSet) (r10 : List (List D)) : Option (List D) := Kf 141 1036904 (Lv.mk [V.one (C.ptr 0 0 0), V.one (C.ptr 2048 0 0), V.one (C.ptr 3072 0 0), V.one (C.d (D.int IntKind.i64 n0)), V.one (C.d (D.list 1 l1)), V.one (C.d (D.bool b2)), V.one (C.own 88064 0), V.one (C.d (D.int IntKind.i64 n3)), V.one (C.d (D.int IntKind.i64 n4))] [[C.d (D.list 1 x5.L)], [C.d (D.int IntKind.i64 x6.Kinds), C.d (D.list 2 x6.Rates.Spans), C.d (D.list 1 x6.Maps), C.d (D.list 2 x6.Sizes.Spans)], [C.d (D.int IntKind.i64 n7), C.d (D.list 2 x8.Spans), C.own 88064 0, C.d (D.list 2 x9.Spans)]] [Tk.mk 0 false 28 1 r10])
noncomputable def clock_usual (a : Y.Ratio) : Option (List D) := Cf 153 [Arg.v a.enc]
noncomputable def control_declared (a : Y.Ratio) (b c : Int) : Option (List D) := Cf 160 [Arg.v a.enc, Arg.v [D.int IntKind.i64 b], Arg.v [D.int IntKind.i64 c]]
noncomputable def control_Valid (a : Y.Control) : Option (List D) := Cf 166 [Arg.v a.enc]
noncomputable def sample_is (a : Int) : Option (List D) := Cf 184 [Arg.v [D.int IntKind.i32 a]]
noncomputable def clock_piece_at (a : Y.Clock_piece) (b : Int) : Option (List D) := Cf 196 [Arg.v a.enc, Arg.v [D.int IntKind.i64 b]]
noncomputable def intset_Has_1 (a : Y.Span) (b : Int) : Option (List D) := Cf 216 [Arg.v a.enc, Arg.r [D.int IntKind.i64 b]]
noncomputable def control_Adjust_1 (a : Int) (b : Y.Control) : Option (List D) := Cf 231 [Arg.v [D.int IntKind.i64 a], Arg.r b.enc]
noncomputable def ratio_Floor (a : Int) (b : Y.Ratio) : Option (List D) := Cf 244 [Arg.v [D.int IntKind.i64 a], Arg.v b.enc]
noncomputable def bits_Len64 (a : Int) : Option (List D) := Cf 250 [Arg.v [D.int IntKind.u64 a]]
noncomputable def intset_Valid (a : Y.IntSet) : Option (List D) := Cf 257 [Arg.v a.enc]
noncomputable def intset_Valid_k104 (l0 : List (List D)) (n1 n2 : Int) (x3 : Y.IntSet) : Option (List D) := Kf 257 104 (Lv.mk [V.one (C.ptr 1024 0 0), V.one (C.d (D.list 2 l0)), V.one (C.d (D.int IntKind.i64 n1)), V.one (C.d (D.int IntKind.i64 n2))] [[C.d (D.list 2 x3.Spans)]] [])
noncomputable def phase_Advance (a : Y.Phase) (b : Int) : Option (List D) := Cf 264 [Arg.v a.enc, Arg.v [D.int IntKind.i64 b]]
noncomputable def slices_ContainsFunc_G__offer_Valid_1 (a : List (List D)) : Option (List D) := Cf 100001 [Arg.v [D.list 4 a], Arg.v []]
noncomputable def slices_IndexFunc_G__offer_Valid_1 (a : List (List D)) : Option (List D) := Cf 100007 [Arg.v [D.list 4 a], Arg.v []]
noncomputable def slices_IndexFunc_G__offer_Valid_1_k104 (l0 : List (List D)) (n1 n2 : Int) : Option (List D) := Kf 100007 104 (Lv.mk [V.one (C.d (D.list 4 l0)), V.one (C.fn 211 211 []), V.one (C.d (D.int IntKind.i64 n1)), V.one (C.d (D.int IntKind.i64 n2))] [] [])
noncomputable def made_New (a : List (List D)) : Option (List D) := Cf 16 [Arg.v [D.list 1 a]]
noncomputable def made_Dice_Next (a : Y.Made_Dice) (b : Int) : Option (List D) := Cf 40 [Arg.r a.enc, Arg.v [D.int IntKind.i64 b]]
noncomputable def device_move (a : Y.Device) (b : Y.Block) (c : Int) : Option (List D) := Cf 58 [Arg.v a.enc, Arg.v b.enc, Arg.v [D.int IntKind.i64 c]]
noncomputable def device_unit_valid (a : Y.Device_unit) : Option (List D) := Cf 64 [Arg.v a.enc]
noncomputable def ref03_Valid (a : Y.Ratio) : Option (List D) := Cf 76 [Arg.v a.enc]
noncomputable def device_unit_nominal (a : Y.Device_unit) : Option (List D) := Cf 82 [Arg.v a.enc]
noncomputable def ratio_Inverse (a : Y.Ratio) : Option (List D) := Cf 88 [Arg.v a.enc]
noncomputable def control_Plan (a : Y.Ratio) (b c d e : Int) : Option (List D) := Cf 100 [Arg.v a.enc, Arg.v [D.int IntKind.i64 b], Arg.v [D.int IntKind.i64 c], Arg.v [D.int IntKind.i64 d], Arg.v [D.int IntKind.i64 e]]
noncomputable def slices_Clone_G_api_Box_api_Box (a : List (List D)) : Option (List D) := Cf 112 [Arg.v [D.list 4 a]]
noncomputable def ref15_Valid (a : Y.Resampler) : Option (List D) := Cf 118 [Arg.v a.enc]
noncomputable def made_Maps : Option (List D) := Cf 142 []
noncomputable def offer_boxes (a : List (List D)) : Option (List D) := Cf 155 [Arg.v [D.list 4 a]]
noncomputable def control_up (a b : Int) : Option (List D) := Cf 161 [Arg.v [D.int IntKind.i64 a], Arg.v [D.int IntKind.i64 b]]
noncomputable def resample_Feed (a : Y.Resampler) (b : Y.Block) : Option (List D) := Cf 167 [Arg.v a.enc, Arg.v b.enc]
noncomputable def resample_Waiting (a : Y.Resampler) : Option (List D) := Cf 185 [Arg.v a.enc]
noncomputable def resample_Valid (a : Y.Resampler) : Option (List D) := Cf 197 [Arg.v a.enc]
noncomputable def offer_has_1 (a b : List (List D)) : Option (List D) := Cf 218 [Arg.v [D.list 1 a], Arg.r [D.list 1 b]]
noncomputable def phase_Make_1 (a : Int) (b : Y.Phase) (c : Int) : Option (List D) := Cf 233 [Arg.v [D.int IntKind.i64 a], Arg.r b.enc, Arg.r [D.int IntKind.i64 c]]
noncomputable def resample_rest (a : Y.Resampler) : Option (List D) := Cf 245 [Arg.v a.enc]
noncomputable def ref09_Make (a : List (List D)) : Option (List D) := Cf 251 [Arg.v [D.list 2 a]]
noncomputable def ref09_Make_k104 (l0 l1 : List (List D)) (n2 n3 : Int) (x4 : Y.IntSet) : Option (List D) := Kf 251 104 (Lv.mk [V.one (C.d (D.list 2 l0)), V.one (C.ptr 2048 0 0), V.one (C.d (D.list 2 l1)), V.one (C.d (D.int IntKind.i64 n2)), V.one (C.d (D.int IntKind.i64 n3))] [[C.d (D.list 2 x4.Spans)]] [])
noncomputable def slices_Equal_G_int_int (a b : List (List D)) : Option (List D) := Cf 259 [Arg.v [D.list 1 a], Arg.v [D.list 1 b]]
noncomputable def slices_Equal_G_int_int_k232 (l0 l1 : List (List D)) (n2 n3 : Int) : Option (List D) := Kf 259 232 (Lv.mk [V.one (C.d (D.list 1 l0)), V.one (C.d (D.list 1 l1)), V.one (C.d (D.int IntKind.i64 n2)), V.one (C.d (D.int IntKind.i64 n3))] [] [])
noncomputable def phase_At (a : Y.Phase) (b : Int) : Option (List D) := Cf 265 [Arg.v a.enc, Arg.v [D.int IntKind.i64 b]]
noncomputable def ref09_joined (a : List (List D)) : Option (List D) := Cf 271 [Arg.v [D.list 2 a]]
noncomputable def ref09_joined_k232 (l0 : List (List D)) (n1 n2 : Int) (r3 r4 : List (List D)) : Option (List D) := Kf 271 232 (Lv.mk [V.one (C.own 3072 0), V.one (C.own 4096 0), V.one (C.d (D.list 2 l0)), V.one (C.d (D.int IntKind.i64 n1)), V.one (C.d (D.int IntKind.i64 n2))] [] [Tk.mk 0 false 104 2 r3, Tk.mk 0 false 104 2 r4])
noncomputable def ref09_joined_k239200 (n0 : Int) (l1 : List (List D)) (n2 n3 : Int) (x4 : Y.Span) (r5 r6 : List (List D)) : Option (List D) := Kf 271 239200 (Lv.mk [V.one (C.own 3072 0), V.one (C.own 4096 0), V.one (C.ptr 6144 0 0), V.one (C.d (D.int IntKind.i64 n0)), V.one (C.d (D.list 2 l1)), V.one (C.d (D.int IntKind.i64 n2)), V.one (C.d (D.int IntKind.i64 n3))] [[C.d (D.int IntKind.i64 x4.Lo), C.d (D.int IntKind.i64 x4.Hi)]] [Tk.mk 0 false 104 2 r5, Tk.mk 0 false 104 2 r6])
noncomputable def ref09_joined_k488 (n0 n1 : Int) (r2 r3 : List (List D)) : Option (List D) := Kf 271 488 (Lv.mk [V.one (C.own 4096 0), V.one (C.own 47104 0), V.one (C.d (D.int IntKind.i64 n0)), V.one (C.d (D.int IntKind.i64 n1))] [] [Tk.mk 0 false 104 2 r2, Tk.mk 0 false 104 2 r3])
noncomputable def slices_ContainsFunc_G__intset_Has_1 (a : List (List D)) (c : Int) : Option (List D) := Cf 100002 [Arg.v [D.list 2 a], Arg.v [], Arg.r [D.int IntKind.i64 c]]
noncomputable def slices_IndexFunc_G__intset_Has_1 (a : List (List D)) (c : Int) : Option (List D) := Cf 100008 [Arg.v [D.list 2 a], Arg.v [], Arg.r [D.int IntKind.i64 c]]
noncomputable def slices_IndexFunc_G__intset_Has_1_k104 (l0 : List (List D)) (n1 n2 n3 : Int) : Option (List D) := Kf 100008 104 (Lv.mk [V.one (C.d (D.list 2 l0)), V.one (C.fn 216 216 [Cap.p 2048 0]), V.one (C.d (D.int IntKind.i64 n1)), V.one (C.d (D.int IntKind.i64 n2))] [[C.d (D.int IntKind.i64 n3)]] [])
noncomputable def law21_sane : Option (List D) := Cf 11 []
noncomputable def made_Block (a : Y.Made_Dice) (b c : Int) : Option (List D) := Cf 17 [Arg.r a.enc, Arg.v [D.int IntKind.i64 b], Arg.v [D.int IntKind.i64 c]]
noncomputable def made_Block_k464 (n0 n1 n2 : Int) (x3 : Y.Made_Dice) (x4 : Y.Block) (n5 : Int) (r6 : List (List D)) : Option (List D) := Kf 17 464 (Lv.mk [V.one (C.ptr 0 0 0), V.one (C.d (D.int IntKind.i64 n0)), V.one (C.d (D.int IntKind.i64 n1)), V.one (C.ptr 6144 0 0), V.one (C.ptr 7168 0 0), V.one (C.d (D.int IntKind.i64 n2))] [[C.d (D.list 1 x3.L)], [C.d (D.int IntKind.i64 x4.Channels), C.d (D.list 1 x4.Data)], [C.d (D.int IntKind.i64 n5), C.own 23552 0]] [Tk.mk 0 false 21 1 r6])
noncomputable def made_Wave (a b c d : Int) : Option (List D) := Cf 23 [Arg.v [D.int IntKind.i64 a], Arg.v [D.int IntKind.i64 b], Arg.v [D.int IntKind.i64 c], Arg.v [D.int IntKind.i64 d]]
noncomputable def made_Wave_k464 (n0 n1 n2 n3 n4 : Int) (x5 : Y.Block) (n6 : Int) (r7 : List (List D)) : Option (List D) := Kf 23 464 (Lv.mk [V.one (C.d (D.int IntKind.i64 n0)), V.one (C.d (D.int IntKind.i64 n1)), V.one (C.d (D.int IntKind.i64 n2)), V.one (C.d (D.int IntKind.i64 n3)), V.one (C.ptr 8192 0 0), V.one (C.ptr 9216 0 0), V.one (C.d (D.int IntKind.i64 n4))] [[C.d (D.int IntKind.i64 x5.Channels), C.d (D.list 1 x5.Data)], [C.d (D.int IntKind.i64 n6), C.own 45056 0]] [Tk.mk 0 false 21 1 r7])
noncomputable def made_Wave_k29840 (n0 n1 n2 n3 n4 n5 : Int) (x6 : Y.Block) (n7 : Int) (r8 : List (List D)) : Option (List D) := Kf 23 29840 (Lv.mk [V.one (C.d (D.int IntKind.i64 n0)), V.one (C.d (D.int IntKind.i64 n1)), V.one (C.d (D.int IntKind.i64 n2)), V.one (C.d (D.int IntKind.i64 n3)), V.one (C.ptr 8192 0 0), V.one (C.ptr 9216 0 0), V.one (C.d (D.int IntKind.i64 n4)), V.one (C.d (D.int IntKind.i64 n5))] [[C.d (D.int IntKind.i64 x6.Channels), C.d (D.list 1 x6.Data)], [C.d (D.int IntKind.i64 n7), C.own 45056 0]] [Tk.mk 0 false 21 1 r8])
noncomputable def device_own (a : Y.Device) : Option (List D) := Cf 53 [Arg.v a.enc]
noncomputable def device_own_k232 (n0 n1 : Int) (x2 x3 : Y.Device) (r4 : List (List D)) : Option (List D) := Kf 53 232 (Lv.mk [V.one (C.ptr 1024 0 0), V.one (C.ptr 2048 0 0), V.one (C.own 3072 0), V.one (C.own 3072 0), V.one (C.d (D.int IntKind.i64 n0)), V.one (C.d (D.int IntKind.i64 n1))] [[C.d (D.int IntKind.u64 x2.Descriptor.ID), C.d (D.str x2.Descriptor.Name), C.d (D.int IntKind.i64 x2.Descriptor.Direction), C.d (D.int IntKind.i64 x2.Descriptor.Domain), C.d (D.int IntKind.i64 x2.Descriptor.Latency), C.d (D.int IntKind.i64 x2.Descriptor.Drift), C.d (D.int IntKind.i64 x2.Descriptor.Jitter), C.d (D.list 4 x2.Descriptor.Boxes), C.d (D.int IntKind.i64 x2.Choice.Format.Kind), C.d (D.int IntKind.i64 x2.Choice.Format.Rate), C.d (D.list 1 x2.Choice.Format.Map), C.d (D.int IntKind.i64 x2.Choice.Size), C.d (D.int IntKind.i64 x2.Rate), C.d (D.int IntKind.i64 x2.Period), C.d (D.list 3 x2.Clock.Segments), C.d (D.bool x2.Running), C.d (D.int IntKind.i64 x2.Since), C.d (D.int IntKind.i64 x2.Bridge.Capacity), C.d (D.int IntKind.i64 x2.Bridge.Control.Target), C.d (D.int IntKind.i64 x2.Bridge.Control.Dead), C.d (D.int IntKind.i64 x2.Bridge.Control.Gain), C.d (D.int IntKind.i64 x2.Bridge.Control.Most), C.d (D.int IntKind.i64 x2.Bridge.Resample.Channels), C.d (D.int IntKind.i64 x2.Bridge.Resample.Phase.Base.Num), C.d (D.int IntKind.i64 x2.Bridge.Resample.Phase.Base.Den), C.d (D.int IntKind.i64 x2.Bridge.Resample.Phase.Adjust), C.d (D.int IntKind.i64 x2.Bridge.Resample.Phase.Pos), C.d (D.int IntKind.i64 x2.Bridge.Resample.Phase.Frac), C.d (D.list 1 x2.Bridge.Resample.Rest), C.d (D.int IntKind.i64 x2.Bridge.Lost), C.d (D.int IntKind.i64 x2.Bridge.Missed)], [C.d (D.int IntKind.u64 x3.Descriptor.ID), C.d (D.str x3.Descriptor.Name), C.d (D.int IntKind.i64 x3.Descriptor.Direction), C.d (D.int IntKind.i64 x3.Descriptor.Domain), C.d (D.int IntKind.i64 x3.Descriptor.Latency), C.d (D.int IntKind.i64 x3.Descriptor.Drift), C.d (D.int IntKind.i64 x3.Descriptor.Jitter), C.d (D.list 4 x3.Descriptor.Boxes), C.d (D.int IntKind.i64 x3.Choice.Format.Kind), C.d (D.int IntKind.i64 x3.Choice.Format.Rate), C.d (D.list 1 x3.Choice.Format.Map), C.d (D.int IntKind.i64 x3.Choice.Size), C.d (D.int IntKind.i64 x3.Rate), C.d (D.int IntKind.i64 x3.Period), C.d (D.list 3 x3.Clock.Segments), C.d (D.bool x3.Running), C.d (D.int IntKind.i64 x3.Since), C.d (D.int IntKind.i64 x3.Bridge.Capacity), C.d (D.int IntKind.i64 x3.Bridge.Control.Target), C.d (D.int IntKind.i64 x3.Bridge.Control.Dead), C.d (D.int IntKind.i64 x3.Bridge.Control.Gain), C.d (D.int IntKind.i64 x3.Bridge.Control.Most), C.d (D.int IntKind.i64 x3.Bridge.Resample.Channels), C.d (D.int IntKind.i64 x3.Bridge.Resample.Phase.Base.Num), C.d (D.int IntKind.i64 x3.Bridge.Resample.Phase.Base.Den), C.d (D.int IntKind.i64 x3.Bridge.Resample.Phase.Adjust), C.d (D.int IntKind.i64 x3.Bridge.Resample.Phase.Pos), C.d (D.int IntKind.i64 x3.Bridge.Resample.Phase.Frac), C.d (D.list 1 x3.Bridge.Resample.Rest), C.d (D.int IntKind.i64 x3.Bridge.Lost), C.d (D.int IntKind.i64 x3.Bridge.Missed)]] [Tk.mk 0 false 110 4 r4])
noncomputable def device_own_k478440 (n0 n1 n2 n3 n4 : Int) (x5 x6 : Y.Device) (n7 : Int) (x8 x9 : Y.IntSet) (r10 r11 : List (List D)) : Option (List D) := Kf 53 478440 (Lv.mk [V.one (C.ptr 1024 0 0), V.one (C.ptr 2048 0 0), V.one (C.own 3072 0), V.one (C.d (D.int IntKind.i64 n0)), V.one (C.ptr 5120 0 0), V.one (C.own 3072 0), V.one (C.d (D.int IntKind.i64 n1)), V.one (C.d (D.int IntKind.i64 n2)), V.one (C.own 36864 0), V.one (C.d (D.int IntKind.i64 n3)), V.one (C.d (D.int IntKind.i64 n4))] [[C.d (D.int IntKind.u64 x5.Descriptor.ID), C.d (D.str x5.Descriptor.Name), C.d (D.int IntKind.i64 x5.Descriptor.Direction), C.d (D.int IntKind.i64 x5.Descriptor.Domain), C.d (D.int IntKind.i64 x5.Descriptor.Latency), C.d (D.int IntKind.i64 x5.Descriptor.Drift), C.d (D.int IntKind.i64 x5.Descriptor.Jitter), C.d (D.list 4 x5.Descriptor.Boxes), C.d (D.int IntKind.i64 x5.Choice.Format.Kind), C.d (D.int IntKind.i64 x5.Choice.Format.Rate), C.d (D.list 1 x5.Choice.Format.Map), C.d (D.int IntKind.i64 x5.Choice.Size), C.d (D.int IntKind.i64 x5.Rate), C.d (D.int IntKind.i64 x5.Period), C.d (D.list 3 x5.Clock.Segments), C.d (D.bool x5.Running), C.d (D.int IntKind.i64 x5.Since), C.d (D.int IntKind.i64 x5.Bridge.Capacity), C.d (D.int IntKind.i64 x5.Bridge.Control.Target), C.d (D.int IntKind.i64 x5.Bridge.Control.Dead), C.d (D.int IntKind.i64 x5.Bridge.Control.Gain), C.d (D.int IntKind.i64 x5.Bridge.Control.Most), C.d (D.int IntKind.i64 x5.Bridge.Resample.Channels), C.d (D.int IntKind.i64 x5.Bridge.Resample.Phase.Base.Num), C.d (D.int IntKind.i64 x5.Bridge.Resample.Phase.Base.Den), C.d (D.int IntKind.i64 x5.Bridge.Resample.Phase.Adjust), C.d (D.int IntKind.i64 x5.Bridge.Resample.Phase.Pos), C.d (D.int IntKind.i64 x5.Bridge.Resample.Phase.Frac), C.d (D.list 1 x5.Bridge.Resample.Rest), C.d (D.int IntKind.i64 x5.Bridge.Lost), C.d (D.int IntKind.i64 x5.Bridge.Missed)], [C.d (D.int IntKind.u64 x6.Descriptor.ID), C.d (D.str x6.Descriptor.Name), C.d (D.int IntKind.i64 x6.Descriptor.Direction), C.d (D.int IntKind.i64 x6.Descriptor.Domain), C.d (D.int IntKind.i64 x6.Descriptor.Latency), C.d (D.int IntKind.i64 x6.Descriptor.Drift), C.d (D.int IntKind.i64 x6.Descriptor.Jitter), C.d (D.list 4 x6.Descriptor.Boxes), C.d (D.int IntKind.i64 x6.Choice.Format.Kind), C.d (D.int IntKind.i64 x6.Choice.Format.Rate), C.d (D.list 1 x6.Choice.Format.Map), C.d (D.int IntKind.i64 x6.Choice.Size), C.d (D.int IntKind.i64 x6.Rate), C.d (D.int IntKind.i64 x6.Period), C.d (D.list 3 x6.Clock.Segments), C.d (D.bool x6.Running), C.d (D.int IntKind.i64 x6.Since), C.d (D.int IntKind.i64 x6.Bridge.Capacity), C.d (D.int IntKind.i64 x6.Bridge.Control.Target), C.d (D.int IntKind.i64 x6.Bridge.Control.Dead), C.d (D.int IntKind.i64 x6.Bridge.Control.Gain), C.d (D.int IntKind.i64 x6.Bridge.Control.Most), C.d (D.int IntKind.i64 x6.Bridge.Resample.Channels), C.d (D.int IntKind.i64 x6.Bridge.Resample.Phase.Base.Num), C.d (D.int IntKind.i64 x6.Bridge.Resample.Phase.Base.Den), C.d (D.int IntKind.i64 x6.Bridge.Resample.Phase.Adjust), C.d (D.int IntKind.i64 x6.Bridge.Resample.Phase.Pos), C.d (D.int IntKind.i64 x6.Bridge.Resample.Phase.Frac), C.d (D.list 1 x6.Bridge.Resample.Rest), C.d (D.int IntKind.i64 x6.Bridge.Lost), C.d (D.int IntKind.i64 x6.Bridge.Missed)], [C.d (D.int IntKind.i64 n7), C.d (D.list 2 x8.Spans), C.own 36864 0, C.d (D.list 2 x9.Spans)]] [Tk.mk 0 false 110 4 r10, Tk.mk 0 false 28 1 r11])
noncomputable def ref04_Valid (a : Y.Block) : Option (List D) := Cf 59 [Arg.v a.enc]
noncomputable def ref04_Valid_k232 (l0 : List (List D)) (n1 n2 : Int) : Option (List D) := Kf 59 232 (Lv.mk [V.one (C.d (D.list 1 l0)), V.one (C.d (D.int IntKind.i64 n1)), V.one (C.d (D.int IntKind.i64 n2))] [] [])
noncomputable def ratio_Ceil (a : Int) (b : Y.Ratio) : Option (List D) := Cf 89 [Arg.v [D.int IntKind.i64 a], Arg.v b.enc]
noncomputable def bridge_New (a : Int) (b : Y.Ratio) (c : Y.Control) (d e : Int) : Option (List D) := Cf 101 [Arg.v [D.int IntKind.i64 a], Arg.v b.enc, Arg.v c.enc, Arg.v [D.int IntKind.i64 d], Arg.v [D.int IntKind.i64 e]]
noncomputable def slices_Clone_G_api_Span_api_Span (a : List (List D)) : Option (List D) := Cf 113 [Arg.v [D.list 2 a]]
noncomputable def ref18_Valid (a : Y.Control) : Option (List D) := Cf 119 [Arg.v a.enc]
noncomputable def ratio_Make (a b : Int) : Option (List D) := Cf 143 [Arg.v [D.int IntKind.i64 a], Arg.v [D.int IntKind.i64 b]]
noncomputable def offer_Has_1 (a : Y.Box) (b : Y.Choice) : Option (List D) := Cf 156 [Arg.v a.enc, Arg.r b.enc]
noncomputable def control_wobble (a : Y.Ratio) (b : Int) : Option (List D) := Cf 162 [Arg.v a.enc, Arg.v [D.int IntKind.i64 b]]
noncomputable def phase_Retune (a : Y.Phase) (b : Int) : Option (List D) := Cf 186 [Arg.v a.enc, Arg.v [D.int IntKind.i64 b]]
noncomputable def bits_LeadingZeros64 (a : Int) : Option (List D) := Cf 204 [Arg.v [D.int IntKind.u64 a]]
noncomputable def channels_Same (a b : List (List D)) : Option (List D) := Cf 219 [Arg.v [D.list 1 a], Arg.v [D.list 1 b]]
noncomputable def phase_need (a : Y.Phase) (b : Int) : Option (List D) := Cf 234 [Arg.v a.enc, Arg.v [D.int IntKind.i64 b]]
noncomputable def resample_frame (a : Y.Resampler) (b : Int) : Option (List D) := Cf 266 [Arg.v a.enc, Arg.v [D.int IntKind.i64 b]]
noncomputable def slices_Contains_G_int_int (a : List (List D)) (b : Int) : Option (List D) := Cf 272 [Arg.v [D.list 1 a], Arg.v [D.int IntKind.i64 b]]
noncomputable def slices_ContainsFunc_G__offer_has_1 (a c : List (List D)) : Option (List D) := Cf 100003 [Arg.v [D.list 1 a], Arg.v [], Arg.r [D.list 1 c]]
noncomputable def slices_IndexFunc_G__offer_has_1 (a c : List (List D)) : Option (List D) := Cf 100009 [Arg.v [D.list 1 a], Arg.v [], Arg.r [D.list 1 c]]
noncomputable def slices_IndexFunc_G__offer_has_1_k104 (l0 : List (List D)) (n1 n2 : Int) (l3 : List (List D)) : Option (List D) := Kf 100009 104 (Lv.mk [V.one (C.d (D.list 1 l0)), V.one (C.fn 218 218 [Cap.p 2048 0]), V.one (C.d (D.int IntKind.i64 n1)), V.one (C.d (D.int IntKind.i64 n2))] [[C.d (D.list 1 l3)]] [])
noncomputable def law21_plain : Option (List D) := Cf 12 []
noncomputable def device_Play (a : Y.Device) (b : Y.Block) (c d : Int) : Option (List D) := Cf 18 [Arg.v a.enc, Arg.v b.enc, Arg.v [D.int IntKind.i64 c], Arg.v [D.int IntKind.i64 d]]
noncomputable def device_Due (a : Y.Device) (b c : Int) : Option (List D) := Cf 24 [Arg.v a.enc, Arg.v [D.int IntKind.i64 b], Arg.v [D.int IntKind.i64 c]]
noncomputable def device_Open (a : Y.Descriptor) (b : Y.Choice) (c : Y.Clock) (d e : Int) : Option (List D) := Cf 48 [Arg.v a.enc, Arg.v b.enc, Arg.v c.enc, Arg.v [D.int IntKind.i64 d], Arg.v [D.int IntKind.i64 e]]
noncomputable def ref19_Valid (a : Y.Bridge) : Option (List D) := Cf 54 [Arg.v a.enc]
noncomputable def ref04_Cut (a : Y.Block) (b c : Int) : Option (List D) := Cf 60 [Arg.v a.enc, Arg.v [D.int IntKind.i64 b], Arg.v [D.int IntKind.i64 c]]
noncomputable def ref04_SameData (a b : List (List D)) : Option (List D) := Cf 72 [Arg.v [D.list 1 a], Arg.v [D.list 1 b]]
noncomputable def ref04_SameData_k232 (l0 l1 : List (List D)) (n2 n3 : Int) : Option (List D) := Kf 72 232 (Lv.mk [V.one (C.d (D.list 1 l0)), V.one (C.d (D.list 1 l1)), V.one (C.d (D.int IntKind.i64 n2)), V.one (C.d (D.int IntKind.i64 n3))] [] [])
noncomputable def descriptor_Valid (a : Y.Descriptor) : Option (List D) := Cf 96 [Arg.v a.enc]
noncomputable def device_unit_ports (a : Y.Device_unit) : Option (List D) := Cf 102 [Arg.v a.enc]
noncomputable def slices_Clone_G_int_int_114 (a : List (List D)) : Option (List D) := Cf 114 [Arg.v [D.list 1 a]]
noncomputable def sample_Valid (a : Y.Block) : Option (List D) := Cf 120 [Arg.v a.enc]
noncomputable def sample_Valid_k232 (l0 : List (List D)) (n1 n2 : Int) : Option (List D) := Kf 120 232 (Lv.mk [V.one (C.d (D.list 1 l0)), V.one (C.d (D.int IntKind.i64 n1)), V.one (C.d (D.int IntKind.i64 n2))] [] [])
noncomputable def ratio_Valid (a : Y.Ratio) : Option (List D) := Cf 144 [Arg.v a.enc]
noncomputable def offer_kind (a : Y.Box) (b : Int) : Option (List D) := Cf 157 [Arg.v a.enc, Arg.v [D.int IntKind.i64 b]]
noncomputable def control_Bound (a : Y.Control) (b : Y.Ratio) (c d e : Int) : Option (List D) := Cf 163 [Arg.v a.enc, Arg.v b.enc, Arg.v [D.int IntKind.i64 c], Arg.v [D.int IntKind.i64 d], Arg.v [D.int IntKind.i64 e]]
noncomputable def control_Adjust (a : Y.Control) (b : Int) : Option (List D) := Cf 187 [Arg.v a.enc, Arg.v [D.int IntKind.i64 b]]
noncomputable def made_set (a : Y.Made_Dice) (b : List (List D)) : Option (List D) := Cf 205 [Arg.r a.enc, Arg.v [D.list 2 b]]
noncomputable def made_set_k232 (l0 l1 : List (List D)) (n2 n3 : Int) (x4 : Y.Made_Dice) (x5 : Y.IntSet) (r6 : List (List D)) : Option (List D) := Kf 205 232 (Lv.mk [V.one (C.ptr 0 0 0), V.one (C.d (D.list 2 l0)), V.one (C.ptr 4096 0 0), V.one (C.own 5120 0), V.one (C.d (D.list 2 l1)), V.one (C.d (D.int IntKind.i64 n2)), V.one (C.d (D.int IntKind.i64 n3))] [[C.d (D.list 1 x4.L)], [C.d (D.list 2 x5.Spans)]] [Tk.mk 0 true 104 2 r6])
noncomputable def offer_Valid_1 (a : Y.Box) : Option (List D) := Cf 211 [Arg.v a.enc]
noncomputable def control_possible (a : Y.Ratio) : Option (List D) := Cf 220 [Arg.v a.enc]
noncomputable def ref14_Parts (a : Y.Phase) : Option (List D) := Cf 228 [Arg.v a.enc]
noncomputable def resample_check (a : Y.Resampler) (b : Int) : Option (List D) := Cf 235 [Arg.v a.enc, Arg.v [D.int IntKind.i64 b]]
noncomputable def phase_parts (a : Y.Phase) : Option (List D) := Cf 261 [Arg.v a.enc]
noncomputable def intset_fine (a : Y.Span) : Option (List D) := Cf 273 [Arg.v a.enc]
noncomputable def sort_Search__phase_Make_1 (a : Int) (c : Y.Phase) (d : Int) : Option (List D) := Cf 100004 [Arg.v [D.int IntKind.i64 a], Arg.v [], Arg.r c.enc, Arg.r [D.int IntKind.i64 d]]
noncomputable def sort_Search__phase_Make_1_k224 (n0 n1 : Int) (x2 : Y.Phase) (n3 : Int) : Option (List D) := Kf 100004 224 (Lv.mk [V.one (C.fn 233 233 [Cap.p 2048 0, Cap.p 3072 0]), V.one (C.d (D.int IntKind.i64 n0)), V.one (C.d (D.int IntKind.i64 n1))] [[C.d (D.int IntKind.i64 x2.Base.Num), C.d (D.int IntKind.i64 x2.Base.Den), C.d (D.int IntKind.i64 x2.Adjust), C.d (D.int IntKind.i64 x2.Pos), C.d (D.int IntKind.i64 x2.Frac)], [C.d (D.int IntKind.i64 n3)]] [])
noncomputable def device_Start (a : Y.Device) (b : Int) : Option (List D) := Cf 13 [Arg.v a.enc, Arg.v [D.int IntKind.i64 b]]
noncomputable def ref04_Join (a b : Y.Block) : Option (List D) := Cf 19 [Arg.v a.enc, Arg.v b.enc]
noncomputable def device_Valid (a : Y.Device) : Option (List D) := Cf 25 [Arg.v a.enc]
noncomputable def ref04_Same (a b : Y.Block) : Option (List D) := Cf 31 [Arg.v a.enc, Arg.v b.enc]
noncomputable def ref15_Waiting (a : Y.Resampler) : Option (List D) := Cf 55 [Arg.v a.enc]
noncomputable def sample_Silence (a b : Int) : Option (List D) := Cf 73 [Arg.v [D.int IntKind.i64 a], Arg.v [D.int IntKind.i64 b]]
noncomputable def device_unit_playback (a : Y.Device_unit) : Option (List D) := Cf 85 [Arg.v a.enc]
noncomputable def clock_Valid (a : Y.Clock) : Option (List D) := Cf 97 [Arg.v a.enc]
noncomputable def clock_Valid_k104 (l0 : List (List D)) (n1 n2 : Int) (x3 : Y.Clock) : Option (List D) := Kf 97 104 (Lv.mk [V.one (C.ptr 1024 0 0), V.one (C.d (D.list 3 l0)), V.one (C.d (D.int IntKind.i64 n1)), V.one (C.d (D.int IntKind.i64 n2))] [[C.d (D.list 3 x3.Segments)]] [])
noncomputable def device_unit_base (a : Y.Device_unit) : Option (List D) := Cf 103 [Arg.v a.enc]
noncomputable def slices_Clone_G_int_int_115 (a : List (List D)) : Option (List D) := Cf 115 [Arg.v [D.list 1 a]]
noncomputable def bridge_Push (a : Y.Bridge) (b : Y.Block) : Option (List D) := Cf 121 [Arg.v a.enc, Arg.v b.enc]
noncomputable def clock_position (a : Y.Clock) (b : Int) : Option (List D) := Cf 127 [Arg.v a.enc, Arg.v [D.int IntKind.i64 b]]
noncomputable def bits_Mul64 (a b : Int) : Option (List D) := Cf 139 [Arg.v [D.int IntKind.u64 a], Arg.v [D.int IntKind.u64 b]]
noncomputable def ratio_check (a : Int) (b : Y.Ratio) : Option (List D) := Cf 145 [Arg.v [D.int IntKind.i64 a], Arg.v b.enc]
noncomputable def words_Name (a : ByteArray) : Option (List D) := Cf 151 [Arg.v [D.str a]]
noncomputable def words_Name_k104 (s0 : ByteArray) (n1 n2 : Int) : Option (List D) := Kf 151 104 (Lv.mk [V.one (C.d (D.str s0)), V.one (C.d (D.int IntKind.i64 n1)), V.one (C.d (D.int IntKind.i64 n2))] [] [])
noncomputable def intset_Has (a : Y.IntSet) (b : Int) : Option (List D) := Cf 158 [Arg.v a.enc, Arg.v [D.int IntKind.i64 b]]
noncomputable def control_Demand (a : Y.Control) (b : Y.Ratio) (c d : Int) : Option (List D) := Cf 164 [Arg.v a.enc, Arg.v b.enc, Arg.v [D.int IntKind.i64 c], Arg.v [D.int IntKind.i64 d]]
noncomputable def ref14_Valid (a : Y.Phase) : Option (List D) := Cf 182 [Arg.v a.enc]
noncomputable def phase_Make (a : Y.Phase) (b : Int) : Option (List D) := Cf 188 [Arg.v a.enc, Arg.v [D.int IntKind.i64 b]]
noncomputable def ratio_divisor (a b : Int) : Option (List D) := Cf 206 [Arg.v [D.int IntKind.i64 a], Arg.v [D.int IntKind.i64 b]]
noncomputable def ratio_divisor_k96 (n0 n1 : Int) : Option (List D) := Kf 206 96 (Lv.mk [V.one (C.d (D.int IntKind.i64 n0)), V.one (C.d (D.int IntKind.i64 n1))] [] [])
noncomputable def offer_fine (a : Y.Box) : Option (List D) := Cf 212 [Arg.v a.enc]
noncomputable def offer_fine_k232 (l0 : List (List D)) (n1 n2 : Int) (x3 : Y.Box) : Option (List D) := Kf 212 232 (Lv.mk [V.one (C.ptr 1024 0 0), V.one (C.d (D.list 1 l0)), V.one (C.d (D.int IntKind.i64 n1)), V.one (C.d (D.int IntKind.i64 n2))] [[C.d (D.int IntKind.i64 x3.Kinds), C.d (D.list 2 x3.Rates.Spans), C.d (D.list 1 x3.Maps), C.d (D.list 2 x3.Sizes.Spans)]] [])
noncomputable def phase_New (a : Y.Ratio) : Option (List D) := Cf 221 [Arg.v a.enc]
noncomputable def phase_Valid (a : Y.Phase) : Option (List D) := Cf 229 [Arg.v a.enc]
noncomputable def phase_Need (a : Y.Phase) (b : Int) : Option (List D) := Cf 236 [Arg.v a.enc, Arg.v [D.int IntKind.i64 b]]
noncomputable def offer_within (a : Y.IntSet) (b c : Int) : Option (List D) := Cf 254 [Arg.v a.enc, Arg.v [D.int IntKind.i64 b], Arg.v [D.int IntKind.i64 c]]
noncomputable def phase_ahead (a : Y.Phase) (b : Int) : Option (List D) := Cf 262 [Arg.v a.enc, Arg.v [D.int IntKind.i64 b]]
noncomputable def slices_Index_G_int_int (a : List (List D)) (b : Int) : Option (List D) := Cf 274 [Arg.v [D.list 1 a], Arg.v [D.int IntKind.i64 b]]
noncomputable def slices_Index_G_int_int_k104 (l0 : List (List D)) (n1 n2 n3 : Int) : Option (List D) := Kf 274 104 (Lv.mk [V.one (C.d (D.list 1 l0)), V.one (C.d (D.int IntKind.i64 n1)), V.one (C.d (D.int IntKind.i64 n2)), V.one (C.d (D.int IntKind.i64 n3))] [] [])
noncomputable def slices_Concat_G_int32_int32 (a : List (List D)) : Option (List D) := Cf 222 [Arg.v [D.list 1 a]]
noncomputable def slices_Concat_G_int32_int32_k232 (l0 : List (List D)) (n1 : Int) (l2 : List (List D)) (n3 n4 : Int) : Option (List D) := Kf 222 232 (Lv.mk [V.one (C.d (D.list 1 l0)), V.one (C.d (D.int IntKind.i64 n1)), V.one (C.d (D.list 1 l2)), V.one (C.d (D.int IntKind.i64 n3)), V.one (C.d (D.int IntKind.i64 n4))] [] [])
noncomputable def slices_Concat_G_int32_int32_k1000 (l0 : List (List D)) (n1 n2 : Int) (r3 : List (List D)) : Option (List D) := Kf 222 1000 (Lv.mk [V.one (C.own 6144 0), V.one (C.d (D.list 1 l0)), V.one (C.d (D.int IntKind.i64 n1)), V.one (C.d (D.int IntKind.i64 n2))] [] [Tk.mk 0 false 21 1 r3])
noncomputable def slices_Grow_G__nil (b : Int) : Option (List D) := Cf 100005 [Arg.v [], Arg.v [D.int IntKind.i64 b]]
end Go.Vm
set_option linter.unusedVariables false
namespace Go.Vm
open Go.Proofs
theorem ref04_Silence_eq (a b : Int) : ref04_Silence a b = br (decide (a < 1)) (some (e_Block_I64 (Y.Block.mk 0 []) 2)) (br (decide (a > 8)) (some (e_Block_I64 (Y.Block.mk 0 []) 2)) (br (decide (b < 0)) (some (e_Block_I64 (Y.Block.mk 0 []) 2)) (br (decide (b > 65536)) (some (e_Block_I64 (Y.Block.mk 0 []) 2)) (br (decide (0 ≤ IntKind.i64.wrap (a * b) ∧ IntKind.i64.wrap (a * b) ≤ IntKind.i64.wrap (a * b) ∧ (IntKind.i64.wrap (a * b)).toNat * 4 ≤ 140737488355328)) (some (e_Block_I64 (Y.Block.mk a (List.replicate (IntKind.i64.wrap (a * b)).toNat [D.int IntKind.i32 0])) 0)) none)))) := (Cf_eq 14 _).trans (by kernel_rfl)
theorem law21_begins_eq (a b : Y.Block) : law21_begins a b = o_I64 (ref04_Frames a) fun n1 => o_B (ref04_Valid a) fun b2 => br b2 (o_I64 (ref04_Frames b) fun n3 => br (decide (n1 ≤ n3)) (o_Block (ref04_Cut b 0 n1) fun x4 => o_B (ref04_Same a x4) fun b5 => some (e_B b5)) (some (e_B false))) (some (e_B false)) := (Cf_eq 20 _).trans (by kernel_rfl)
theorem made_Dice_Sample_eq (a : Y.Made_Dice) : made_Dice_Sample a = o_I64_Made_Dice (made_Dice_Next a 8) fun n1 x2 => br (n1 == 0) (some (e_I32_Made_Dice 0 x2)) (br (n1 == 1) (some (e_I32_Made_Dice 8388607 x2)) (br (n1 == 2) (some (e_I32_Made_Dice (-8388608) x2)) (br (n1 == 3) (o_I64_Made_Dice (made_Dice_Next x2 256) fun n3 x4 => some (e_I32_Made_Dice (IntKind.i32.wrap (IntKind.i32.wrap n3 - 128)) x4)) (o_I64_Made_Dice (made_Dice_Next x2 256) fun n5 x6 => o_I64_Made_Dice (made_Dice_Next x6 256) fun n7 x8 => o_I64_Made_Dice (made_Dice_Next x8 256) fun n9 x10 => some (e_I32_Made_Dice (IntKind.i32.wrap (IntKind.i32.wrap (IntKind.i32.wrap (IntKind.i32.wrap (IntKind.i32.wrap n5 * 2 ^ 16) - 8388608) + IntKind.i32.wrap (IntKind.i32.wrap n7 * 2 ^ 8)) + IntKind.i32.wrap n9)) x10))))) := (Cf_eq 56 _).trans (by kernel_rfl)
theorem ref03_gcd_eq (a b : Int) : ref03_gcd a b = ref03_gcd_k96 a b := (Cf_eq 74 _).trans (by kernel_rfl)
theorem ref03_gcd_k96_eq (n0 n1 : Int) : ref03_gcd_k96 n0 n1 = br (n1 != 0) (br (decide (n1 = 0)) none (ref03_gcd_k96 n1 (n0.tmod n1))) (some (e_I64 n0)) := (Kf_eq 74 96 _).trans (by kernel_rfl)
theorem made_Boxes_eq (a : Y.Made_Dice) (b c : Int) : made_Boxes a b c = o_I64_Made_Dice (made_Dice_Next a (IntKind.i64.wrap (IntKind.i64.wrap (c - b) + 1))) fun n1 x2 => made_Boxes_k464 (IntKind.i64.wrap (b + n1)) x2 [] := (Cf_eq 80 _).trans (by kernel_rfl)
theorem made_Boxes_k464_eq (n0 : Int) (x1 : Y.Made_Dice) (r2 : List (List D)) : made_Boxes_k464 n0 x1 r2 = br (decide (n0 > 0)) (o_Box_Made_Dice (made_Box x1) fun x3 x4 => br (decide ((r2.length + 1) * 80 ≤ 140737488355328)) (made_Boxes_k464 (IntKind.i64.wrap (n0 - 1)) x4 (r2 ++ [x3.enc])) none) (some (e_L4_Made_Dice r2 x1)) := (Kf_eq 80 464 _).trans (by kernel_rfl)
theorem device_unit_inputs_eq (a : Y.Device_unit) : device_unit_inputs a = o_B (device_unit_playback a) fun b1 => br b1 (some (e_Ratio (Y.Ratio.mk a.Device.Period 1))) (o_Ratio_I64 (ratio_Make (IntKind.i64.wrap (a.Device.Period * a.Device.Choice.Format.Rate)) a.Device.Rate) fun x2 n3 => some (e_Ratio x2)) := (Cf_eq 86 _).trans (by kernel_rfl)
theorem device_unit_set_eq (a : Y.Device_unit) : device_unit_set a = br (decide (a.Device.Rate ≥ 8000)) (br (decide (a.Device.Rate ≤ 192000)) (br (decide (a.Device.Period ≥ 16)) (some (e_B (decide (a.Device.Period ≤ 8192)))) (some (e_B false))) (some (e_B false))) (some (e_B false)) := (Cf_eq 98 _).trans (by kernel_rfl)
theorem slices_Clone_G_api_Segment_api_Segment_eq (a : List (List D)) : slices_Clone_G_api_Segment_api_Segment a = br (decide (a.length = 0)) (both (some (e_L3 [])) (br (decide ((0 + a.length) * 24 ≤ 140737488355328)) (some (e_L3 ([] ++ a))) none)) (br (decide ((0 + a.length) * 24 ≤ 140737488355328)) (some (e_L3 ([] ++ a))) none) := (Cf_eq 116 _).trans (by kernel_rfl)
theorem bridge_Pull_eq (a : Y.Bridge) (b : Int) : bridge_Pull a b = o_B (bridge_Valid a) fun b1 => br (!b1) (some (e_Block_I64_Bridge_I64 (Y.Block.mk 0 []) 0 (Y.Bridge.mk 0 (Y.Control.mk 0 0 0 0) (Y.Resampler.mk 0 (Y.Phase.mk (Y.Ratio.mk 0 0) 0 0 0) []) 0 0) 1)) (br (decide (b < 0)) (some (e_Block_I64_Bridge_I64 (Y.Block.mk 0 []) 0 (Y.Bridge.mk 0 (Y.Control.mk 0 0 0 0) (Y.Resampler.mk 0 (Y.Phase.mk (Y.Ratio.mk 0 0) 0 0 0) []) 0 0) 2)) (br (decide (b > 65536)) (some (e_Block_I64_Bridge_I64 (Y.Block.mk 0 []) 0 (Y.Bridge.mk 0 (Y.Control.mk 0 0 0 0) (Y.Resampler.mk 0 (Y.Phase.mk (Y.Ratio.mk 0 0) 0 0 0) []) 0 0) 2)) (o_I64 (resample_Waiting a.Resample) fun n2 => o_I64 (control_Adjust a.Control n2) fun n3 => o_Phase_I64 (phase_Retune a.Resample.Phase n3) fun x4 n5 => o_I64_I64 (phase_Make x4 n2) fun n6 n7 => o_Block_Resampler_I64 (resample_Take (Y.Resampler.mk a.Resample.Channels x4 a.Resample.Rest) (bif false then if b > n6 then b else n6 else if b < n6 then b else n6)) fun x8 x9 n10 => br (n10 != 0) (some (e_Block_I64_Bridge_I64 (Y.Block.mk 0 []) 0 (Y.Bridge.mk 0 (Y.Control.mk 0 0 0 0) (Y.Resampler.mk 0 (Y.Phase.mk (Y.Ratio.mk 0 0) 0 0 0) []) 0 0) n10)) (br (decide (0 ≤ IntKind.i64.wrap (IntKind.i64.wrap (b - bif false then if b > n6 then b else n6 else if b < n6 then b else n6) * x8.Channels) ∧ (x8.Data.length + (IntKind.i64.wrap (IntKind.i64.wrap (b - bif false then if b > n6 then b else n6 else if b < n6 then b else n6) * x8.Channels)).toNat) * 4 ≤ 140737488355328)) (some (e_Block_I64_Bridge_I64 (Y.Block.mk x8.Channels (x8.Data ++ List.replicate (IntKind.i64.wrap (IntKind.i64.wrap (b - bif false then if b > n6 then b else n6 else if b < n6 then b else n6) * x8.Channels)).toNat [D.int IntKind.i32 0])) (IntKind.i64.wrap (b - bif false then if b > n6 then b else n6 else if b < n6 then b else n6)) (Y.Bridge.mk a.Capacity a.Control x9 a.Lost (IntKind.i64.wrap (a.Missed + IntKind.i64.wrap (b - bif false then if b > n6 then b else n6 else if b < n6 then b else n6)))) 0)) none)))) := (Cf_eq 122 _).trans (by kernel_rfl)
theorem bridge_Valid_eq (a : Y.Bridge) : bridge_Valid a = o_B (resample_Valid a.Resample) fun b1 => br b1 (o_B (control_Valid a.Control) fun b2 => br b2 (br (decide (a.Capacity ≥ 1)) (br (decide (a.Capacity ≤ 65536)) (o_I64 (resample_Waiting a.Resample) fun n3 => br (decide (n3 ≤ a.Capacity)) (br (decide (a.Lost ≥ 0)) (some (e_B (decide (a.Missed ≥ 0)))) (some (e_B false))) (some (e_B false))) (some (e_B false))) (some (e_B false))) (some (e_B false))) (some (e_B false)) := (Cf_eq 128 _).trans (by kernel_rfl)
theorem bits_Div64_eq (a b c : Int) : bits_Div64 a b c = br (c == 0) none (br (decide (c ≤ a)) none (br (a == 0) (br (decide (c = 0)) none (br (decide (c = 0)) none (some (e_U64_U64 (IntKind.u64.wrap (b.tdiv c)) (b.tmod c))))) (o_I64 (bits_LeadingZeros64 c) fun n1 => br (decide (IntKind.u64.wrap n1 < 0)) none (br (decide (IntKind.u64.wrap n1 < 0)) none (br (decide (IntKind.u64.wrap (64 - IntKind.u64.wrap n1) < 0)) none (br (decide (IntKind.u64.wrap n1 < 0)) none (br (decide ((IntKind.u64.wrap (c * 2 ^ min (IntKind.u64.wrap n1).toNat 64)).fdiv (2 ^ 32) = 0)) none (bits_Div64_k1048544 (IntKind.u64.wrap (c * 2 ^ min (IntKind.u64.wrap n1).toNat 64)) (IntKind.u64.wrap n1) ((IntKind.u64.wrap (c * 2 ^ min (IntKind.u64.wrap n1).toNat 64)).fdiv (2 ^ 32)) (IntKind.u64.wrap (↑(BitVec.ofInt 64 (IntKind.u64.wrap (c * 2 ^ min (IntKind.u64.wrap n1).toNat 64)) &&& BitVec.ofInt 64 4294967295).toNat : Int)) (IntKind.u64.wrap (↑(BitVec.ofInt 64 (IntKind.u64.wrap (a * 2 ^ min (IntKind.u64.wrap n1).toNat 64)) ||| BitVec.ofInt 64 (b.fdiv (2 ^ min (IntKind.u64.wrap (64 - IntKind.u64.wrap n1)).toNat 64))).toNat : Int)) ((IntKind.u64.wrap (b * 2 ^ min (IntKind.u64.wrap n1).toNat 64)).fdiv (2 ^ 32)) (IntKind.u64.wrap (↑(BitVec.ofInt 64 (IntKind.u64.wrap (b * 2 ^ min (IntKind.u64.wrap n1).toNat 64)) &&& BitVec.ofInt 64 4294967295).toNat : Int)) (IntKind.u64.wrap ((IntKind.u64.wrap (↑(BitVec.ofInt 64 (IntKind.u64.wrap (a * 2 ^ min (IntKind.u64.wrap n1).toNat 64)) ||| BitVec.ofInt 64 (b.fdiv (2 ^ min (IntKind.u64.wrap (64 - IntKind.u64.wrap n1)).toNat 64))).toNat : Int)).tdiv ((IntKind.u64.wrap (c * 2 ^ min (IntKind.u64.wrap n1).toNat 64)).fdiv (2 ^ 32)))) (IntKind.u64.wrap (IntKind.u64.wrap (↑(BitVec.ofInt 64 (IntKind.u64.wrap (a * 2 ^ min (IntKind.u64.wrap n1).toNat 64)) ||| BitVec.ofInt 64 (b.fdiv (2 ^ min (IntKind.u64.wrap (64 - IntKind.u64.wrap n1)).toNat 64))).toNat : Int) - IntKind.u64.wrap (IntKind.u64.wrap ((IntKind.u64.wrap (↑(BitVec.ofInt 64 (IntKind.u64.wrap (a * 2 ^ min (IntKind.u64.wrap n1).toNat 64)) ||| BitVec.ofInt 64 (b.fdiv (2 ^ min (IntKind.u64.wrap (64 - IntKind.u64.wrap n1)).toNat 64))).toNat : Int)).tdiv ((IntKind.u64.wrap (c * 2 ^ min (IntKind.u64.wrap n1).toNat 64)).fdiv (2 ^ 32))) * (IntKind.u64.wrap (c * 2 ^ min (IntKind.u64.wrap n1).toNat 64)).fdiv (2 ^ 32)))))))))))) := (Cf_eq 140 _).trans (by kernel_rfl)
theorem bits_Div64_k1048544_eq (n0 n1 n2 n3 n4 n5 n6 n7 n8 : Int) : bits_Div64_k1048544 n0 n1 n2 n3 n4 n5 n6 n7 n8 = br (decide (n7 ≥ 4294967296)) (br (decide (IntKind.u64.wrap (n8 + n2) ≥ 4294967296)) (br (decide (n2 = 0)) none (bits_Div64_k16777184 n0 n1 n2 n3 n6 (IntKind.u64.wrap (n7 - 1)) (IntKind.u64.wrap (IntKind.u64.wrap (IntKind.u64.wrap (IntKind.u64.wrap (n4 * 4294967296) + n5) - IntKind.u64.wrap (IntKind.u64.wrap (n7 - 1) * n0)) - IntKind.u64.wrap (IntKind.u64.wrap ((IntKind.u64.wrap (IntKind.u64.wrap (IntKind.u64.wrap (n4 * 4294967296) + n5) - IntKind.u64.wrap (IntKind.u64.wrap (n7 - 1) * n0))).tdiv n2) * n2))) (IntKind.u64.wrap (IntKind.u64.wrap (IntKind.u64.wrap (n4 * 4294967296) + n5) - IntKind.u64.wrap (IntKind.u64.wrap (n7 - 1) * n0))) (IntKind.u64.wrap ((IntKind.u64.wrap (IntKind.u64.wrap (IntKind.u64.wrap (n4 * 4294967296) + n5) - IntKind.u64.wrap (IntKind.u64.wrap (n7 - 1) * n0))).tdiv n2)))) (bits_Div64_k1048544 n0 n1 n2 n3 n4 n5 n6 (IntKind.u64.wrap (n7 - 1)) (IntKind.u64.wrap (n8 + n2)))) (br (decide (IntKind.u64.wrap (n7 * n3) > IntKind.u64.wrap (IntKind.u64.wrap (4294967296 * n8) + n5))) (br (decide (IntKind.u64.wrap (n8 + n2) ≥ 4294967296)) (br (decide (n2 = 0)) none (bits_Div64_k16777184 n0 n1 n2 n3 n6 (IntKind.u64.wrap (n7 - 1)) (IntKind.u64.wrap (IntKind.u64.wrap (IntKind.u64.wrap (IntKind.u64.wrap (n4 * 4294967296) + n5) - IntKind.u64.wrap (IntKind.u64.wrap (n7 - 1) * n0)) - IntKind.u64.wrap (IntKind.u64.wrap ((IntKind.u64.wrap (IntKind.u64.wrap (IntKind.u64.wrap (n4 * 4294967296) + n5) - IntKind.u64.wrap (IntKind.u64.wrap (n7 - 1) * n0))).tdiv n2) * n2))) (IntKind.u64.wrap (IntKind.u64.wrap (IntKind.u64.wrap (n4 * 4294967296) + n5) - IntKind.u64.wrap (IntKind.u64.wrap (n7 - 1) * n0))) (IntKind.u64.wrap ((IntKind.u64.wrap (IntKind.u64.wrap (IntKind.u64.wrap (n4 * 4294967296) + n5) - IntKind.u64.wrap (IntKind.u64.wrap (n7 - 1) * n0))).tdiv n2)))) (bits_Div64_k1048544 n0 n1 n2 n3 n4 n5 n6 (IntKind.u64.wrap (n7 - 1)) (IntKind.u64.wrap (n8 + n2)))) (br (decide (n2 = 0)) none (bits_Div64_k16777184 n0 n1 n2 n3 n6 n7 (IntKind.u64.wrap (IntKind.u64.wrap (IntKind.u64.wrap (IntKind.u64.wrap (n4 * 4294967296) + n5) - IntKind.u64.wrap (n7 * n0)) - IntKind.u64.wrap (IntKind.u64.wrap ((IntKind.u64.wrap (IntKind.u64.wrap (IntKind.u64.wrap (n4 * 4294967296) + n5) - IntKind.u64.wrap (n7 * n0))).tdiv n2) * n2))) (IntKind.u64.wrap (IntKind.u64.wrap (IntKind.u64.wrap (n4 * 4294967296) + n5) - IntKind.u64.wrap (n7 * n0))) (IntKind.u64.wrap ((IntKind.u64.wrap (IntKind.u64.wrap (IntKind.u64.wrap (n4 * 4294967296) + n5) - IntKind.u64.wrap (n7 * n0))).tdiv n2))))) := (Kf_eq 140 1048544 _).trans (by kernel_rfl)
theorem bits_Div64_k16777184_eq (n0 n1 n2 n3 n4 n5 n6 n7 n8 : Int) : bits_Div64_k16777184 n0 n1 n2 n3 n4 n5 n6 n7 n8 = br (decide (n8 ≥ 4294967296)) (br (decide (IntKind.u64.wrap (n6 + n2) ≥ 4294967296)) (br (decide (n1 < 0)) none (some (e_U64_U64 (IntKind.u64.wrap (IntKind.u64.wrap (n5 * 4294967296) + IntKind.u64.wrap (n8 - 1))) ((IntKind.u64.wrap (IntKind.u64.wrap (IntKind.u64.wrap (n7 * 4294967296) + n4) - IntKind.u64.wrap (IntKind.u64.wrap (n8 - 1) * n0))).fdiv (2 ^ min n1.toNat 64))))) (bits_Div64_k16777184 n0 n1 n2 n3 n4 n5 (IntKind.u64.wrap (n6 + n2)) n7 (IntKind.u64.wrap (n8 - 1)))) (br (decide (IntKind.u64.wrap (n8 * n3) > IntKind.u64.wrap (IntKind.u64.wrap (4294967296 * n6) + n4))) (br (decide (IntKind.u64.wrap (n6 + n2) ≥ 4294967296)) (br (decide (n1 < 0)) none (some (e_U64_U64 (IntKind.u64.wrap (IntKind.u64.wrap (n5 * 4294967296) + IntKind.u64.wrap (n8 - 1))) ((IntKind.u64.wrap (IntKind.u64.wrap (IntKind.u64.wrap (n7 * 4294967296) + n4) - IntKind.u64.wrap (IntKind.u64.wrap (n8 - 1) * n0))).fdiv (2 ^ min n1.toNat 64))))) (bits_Div64_k16777184 n0 n1 n2 n3 n4 n5 (IntKind.u64.wrap (n6 + n2)) n7 (IntKind.u64.wrap (n8 - 1)))) (br (decide (n1 < 0)) none (some (e_U64_U64 (IntKind.u64.wrap (IntKind.u64.wrap (n5 * 4294967296) + n8)) ((IntKind.u64.wrap (IntKind.u64.wrap (IntKind.u64.wrap (n7 * 4294967296) + n4) - IntKind.u64.wrap (n8 * n0))).fdiv (2 ^ min n1.toNat 64)))))) := (Kf_eq 140 16777184 _).trans (by kernel_rfl)
theorem ratio_divide_eq (a : Int) (b : Y.Ratio) : ratio_divide a b = br (decide (a < 0)) (o_U64_U64 (bits_Mul64 (IntKind.u64.wrap (0 - IntKind.u64.wrap a)) (IntKind.u64.wrap b.Num)) fun n1 n2 => br (decide (n1 ≥ IntKind.u64.wrap b.Den)) (some (e_I64_I64_B 0 0 false)) (o_U64_U64 (bits_Div64 n1 n2 (IntKind.u64.wrap b.Den)) fun n3 n4 => br (decide (n3 > 4611686018427387904)) (some (e_I64_I64_B 0 0 false)) (br (decide (a < 0)) (br (decide (IntKind.i64.wrap n4 > 0)) (some (e_I64_I64_B (IntKind.i64.wrap (IntKind.i64.wrap (0 - IntKind.i64.wrap n3) - 1)) (IntKind.i64.wrap (b.Den - IntKind.i64.wrap n4)) true)) (some (e_I64_I64_B (IntKind.i64.wrap (0 - IntKind.i64.wrap n3)) (IntKind.i64.wrap n4) true))) (some (e_I64_I64_B (IntKind.i64.wrap n3) (IntKind.i64.wrap n4) true))))) (o_U64_U64 (bits_Mul64 (IntKind.u64.wrap a) (IntKind.u64.wrap b.Num)) fun n5 n6 => br (decide (n5 ≥ IntKind.u64.wrap b.Den)) (some (e_I64_I64_B 0 0 false)) (o_U64_U64 (bits_Div64 n5 n6 (IntKind.u64.wrap b.Den)) fun n7 n8 => br (decide (n7 > 4611686018427387904)) (some (e_I64_I64_B 0 0 false)) (br (decide (a < 0)) (br (decide (IntKind.i64.wrap n8 > 0)) (some (e_I64_I64_B (IntKind.i64.wrap (IntKind.i64.wrap (0 - IntKind.i64.wrap n7) - 1)) (IntKind.i64.wrap (b.Den - IntKind.i64.wrap n8)) true)) (some (e_I64_I64_B (IntKind.i64.wrap (0 - IntKind.i64.wrap n7)) (IntKind.i64.wrap n8) true))) (some (e_I64_I64_B (IntKind.i64.wrap n7) (IntKind.i64.wrap n8) true))))) := (Cf_eq 146 _).trans (by kernel_rfl)
theorem offer_Valid_eq (a : List (List D)) : offer_Valid a = br (decide ((↑a.length : Int) ≤ 64)) (o_B (slices_ContainsFunc_G__offer_Valid_1 a) fun b1 => some (e_B !b1)) (some (e_B false)) := (Cf_eq 152 _).trans (by kernel_rfl)
theorem offer_has_eq (a b : List (List D)) : offer_has a b = o_B_L1 (slices_ContainsFunc_G__offer_has_1 a b) fun b1 l2 => some (e_B b1) := (Cf_eq 159 _).trans (by kernel_rfl)
theorem resample_New_eq (a : Int) (b : Y.Ratio) : resample_New a b = o_Phase_I64 (phase_New b) fun x1 n2 => br (n2 != 0) (some (e_Resampler_I64 (Y.Resampler.mk 0 (Y.Phase.mk (Y.Ratio.mk 0 0) 0 0 0) []) 1)) (o_B (resample_Valid (Y.Resampler.mk a x1 [])) fun b3 => br (!b3) (some (e_Resampler_I64 (Y.Resampler.mk 0 (Y.Phase.mk (Y.Ratio.mk 0 0) 0 0 0) []) 1)) (some (e_Resampler_I64 (Y.Resampler.mk a x1 []) 0))) := (Cf_eq 165 _).trans (by kernel_rfl)
theorem ref15_block_eq (a : Y.Resampler) : ref15_block a = some (e_Block (Y.Block.mk a.Channels a.Rest)) := (Cf_eq 183 _).trans (by kernel_rfl)
theorem resample_Take_eq (a : Y.Resampler) (b : Int) : resample_Take a b = o_I64 (resample_check a b) fun n1 => br (n1 != 0) (some (e_Block_Resampler_I64 (Y.Block.mk 0 []) (Y.Resampler.mk 0 (Y.Phase.mk (Y.Ratio.mk 0 0) 0 0 0) []) n1)) (o_I64_I64 (phase_Need a.Phase b) fun n2 n3 => br (decide (a.Channels = 0)) none (br (decide (n2 > IntKind.i64.wrap ((↑a.Rest.length : Int).tdiv a.Channels))) (some (e_Block_Resampler_I64 (Y.Block.mk 0 []) (Y.Resampler.mk 0 (Y.Phase.mk (Y.Ratio.mk 0 0) 0 0 0) []) 4)) (o_Block_Resampler_I64 (resample_produce a b) fun x4 x5 n6 => some (e_Block_Resampler_I64 x4 x5 n6)))) := (Cf_eq 189 _).trans (by kernel_rfl)
theorem intset_spans_eq (a : Y.IntSet) : intset_spans a = o_B (intset_Valid a) fun b1 => br (!b1) (some (e_L2 [])) (some (e_L2 a.Spans)) := (Cf_eq 215 _).trans (by kernel_rfl)
theorem phase_tuned_eq (a : Int) : phase_tuned a = br (decide (a ≥ -4096)) (some (e_B (decide (a ≤ 4096)))) (some (e_B false)) := (Cf_eq 230 _).trans (by kernel_rfl)
theorem resample_produce_eq (a : Y.Resampler) (b : Int) : resample_produce a b = o_Phase_I64 (phase_Advance a.Phase b) fun x1 n2 => br (n2 != 0) (some (e_Block_Resampler_I64 (Y.Block.mk 0 []) (Y.Resampler.mk 0 (Y.Phase.mk (Y.Ratio.mk 0 0) 0 0 0) []) n2)) (br (decide ((0 : Int) ≤ 0 ∧ 0 ≤ IntKind.i64.wrap (b * a.Channels) ∧ (IntKind.i64.wrap (b * a.Channels)).toNat * 4 ≤ 140737488355328)) (resample_produce_k2024 (IntKind.i64.wrap (a.Phase.Base.Den * 65536)) b 0 a (Y.Block.mk 0 []) (Y.Resampler.mk 0 (Y.Phase.mk (Y.Ratio.mk 0 0) 0 0 0) []) x1 a.Channels []) none) := (Cf_eq 237 _).trans (by kernel_rfl)
theorem resample_produce_k2024_eq (n0 n1 n2 : Int) (x3 : Y.Resampler) (x4 : Y.Block) (x5 : Y.Resampler) (x6 : Y.Phase) (n7 : Int) (r8 : List (List D)) : resample_produce_k2024 n0 n1 n2 x3 x4 x5 x6 n7 r8 = br (decide (n2 < n1)) (o_I64_I64_I64 (phase_At x3.Phase n2) fun n3 n4 n5 => o_L1 (resample_frame x3 (IntKind.i64.wrap (n3 - x3.Phase.Pos))) fun l6 => o_L1 (resample_frame x3 (IntKind.i64.wrap (IntKind.i64.wrap (n3 - x3.Phase.Pos) + 1))) fun l7 => resample_produce_k4148472 n0 n4 l6 l7 n1 n2 (↑l6.length : Int) 0 x3 x4 x5 x6 n7 r8) (br (decide ((0 ≤ bif false then if IntKind.i64.wrap (IntKind.i64.wrap (x6.Pos - x3.Phase.Pos) * x3.Channels) > (↑x3.Rest.length : Int) then IntKind.i64.wrap (IntKind.i64.wrap (x6.Pos - x3.Phase.Pos) * x3.Channels) else (↑x3.Rest.length : Int) else if IntKind.i64.wrap (IntKind.i64.wrap (x6.Pos - x3.Phase.Pos) * x3.Channels) < (↑x3.Rest.length : Int) then IntKind.i64.wrap (IntKind.i64.wrap (x6.Pos - x3.Phase.Pos) * x3.Channels) else (↑x3.Rest.length : Int)) ∧ (bif false then if IntKind.i64.wrap (IntKind.i64.wrap (x6.Pos - x3.Phase.Pos) * x3.Channels) > (↑x3.Rest.length : Int) then IntKind.i64.wrap (IntKind.i64.wrap (x6.Pos - x3.Phase.Pos) * x3.Channels) else (↑x3.Rest.length : Int) else if IntKind.i64.wrap (IntKind.i64.wrap (x6.Pos - x3.Phase.Pos) * x3.Channels) < (↑x3.Rest.length : Int) then IntKind.i64.wrap (IntKind.i64.wrap (x6.Pos - x3.Phase.Pos) * x3.Channels) else (↑x3.Rest.length : Int)) ≤ (↑x3.Rest.length : Int))) (o_L1 (slices_Clone_G_int32_int32 (List.drop (bif false then if IntKind.i64.wrap (IntKind.i64.wrap (x6.Pos - x3.Phase.Pos) * x3.Channels) > (↑x3.Rest.length : Int) then IntKind.i64.wrap (IntKind.i64.wrap (x6.Pos - x3.Phase.Pos) * x3.Channels) else (↑x3.Rest.length : Int) else if IntKind.i64.wrap (IntKind.i64.wrap (x6.Pos - x3.Phase.Pos) * x3.Channels) < (↑x3.Rest.length : Int) then IntKind.i64.wrap (IntKind.i64.wrap (x6.Pos - x3.Phase.Pos) * x3.Channels) else (↑x3.Rest.length : Int)).toNat (List.take x3.Rest.length x3.Rest))) fun l8 => some (e_Block_Resampler_I64 (Y.Block.mk n7 r8) (Y.Resampler.mk x3.Channels x6 l8) 0)) none) := (Kf_eq 237 2024 _).trans (by kernel_rfl)
theorem resample_produce_k4148472_eq (n0 n1 : Int) (l2 l3 : List (List D)) (n4 n5 n6 n7 : Int) (x8 : Y.Resampler) (x9 : Y.Block) (x10 : Y.Resampler) (x11 : Y.Phase) (n12 : Int) (r13 : List (List D)) : resample_produce_k4148472 n0 n1 l2 l3 n4 n5 n6 n7 x8 x9 x10 x11 n12 r13 = br (decide (n7 < n6)) (br (inB n7 l2.length) (gI IntKind.i32 (l2.getD n7.toNat []) fun n9 => br (inB n7 l3.length) (gI IntKind.i32 (l3.getD n7.toNat []) fun n10 => br (decide (n0 = 0)) none (br (decide (n0 = 0)) none (br (decide ((IntKind.i64.wrap (IntKind.i64.wrap (IntKind.i64.wrap (IntKind.i64.wrap n9 * IntKind.i64.wrap (n0 - n1)) + IntKind.i64.wrap (IntKind.i64.wrap n10 * n1)) + IntKind.i64.wrap (n0.tdiv 2))).tmod n0 < 0)) (br (decide ((r13.length + 1) * 4 ≤ 140737488355328)) (resample_produce_k4148472 n0 n1 l2 l3 n4 n5 n6 (IntKind.i64.wrap (n7 + 1)) x8 x9 x10 x11 n12 (r13 ++ [[D.int IntKind.i32 (IntKind.i32.wrap (IntKind.i64.wrap (IntKind.i64.wrap ((IntKind.i64.wrap (IntKind.i64.wrap (IntKind.i64.wrap (IntKind.i64.wrap n9 * IntKind.i64.wrap (n0 - n1)) + IntKind.i64.wrap (IntKind.i64.wrap n10 * n1)) + IntKind.i64.wrap (n0.tdiv 2))).tdiv n0) - 1)))]])) none) (br (decide ((r13.length + 1) * 4 ≤ 140737488355328)) (resample_produce_k4148472 n0 n1 l2 l3 n4 n5 n6 (IntKind.i64.wrap (n7 + 1)) x8 x9 x10 x11 n12 (r13 ++ [[D.int IntKind.i32 (IntKind.i32.wrap (IntKind.i64.wrap ((IntKind.i64.wrap (IntKind.i64.wrap (IntKind.i64.wrap (IntKind.i64.wrap n9 * IntKind.i64.wrap (n0 - n1)) + IntKind.i64.wrap (IntKind.i64.wrap n10 * n1)) + IntKind.i64.wrap (n0.tdiv 2))).tdiv n0)))]])) none)))) none) none) (resample_produce_k2024 n0 n4 (IntKind.i64.wrap (n5 + 1)) x8 x9 x10 x11 n12 r13) := (Kf_eq 237 4148472 _).trans (by kernel_rfl)
theorem channels_Valid_eq (a : List (List D)) : channels_Valid a = br (decide ((↑a.length : Int) < 1)) (some (e_B false)) (br (decide ((↑a.length : Int) > 8)) (some (e_B false)) (channels_Valid_k232 a a (↑a.length : Int) 0)) := (Cf_eq 255 _).trans (by kernel_rfl)
theorem channels_Valid_k232_eq (l0 l1 : List (List D)) (n2 n3 : Int) : channels_Valid_k232 l0 l1 n2 n3 = br (decide (n3 < n2)) (br (inB n3 l1.length) (gI IntKind.i64 (l1.getD n3.toNat []) fun n1 => br (decide (n1 < 1)) (some (e_B false)) (br (decide (n1 > 8)) (some (e_B false)) (br (decide (0 ≤ n3 ∧ n3 ≤ (↑l0.length : Int))) (o_B (slices_Contains_G_int_int (List.drop 0 (List.take n3.toNat l0)) n1) fun b2 => br b2 (some (e_B false)) (channels_Valid_k232 l0 l1 n2 (IntKind.i64.wrap (n3 + 1)))) none))) none) (some (e_B true)) := (Kf_eq 255 232 _).trans (by kernel_rfl)
theorem phase_check_eq (a : Y.Phase) (b : Int) : phase_check a b = o_B (phase_Valid a) fun b1 => br (!b1) (some (e_I64 1)) (br (decide (b < 0)) (some (e_I64 2)) (br (decide (b > 65536)) (some (e_I64 2)) (some (e_I64 0)))) := (Cf_eq 263 _).trans (by kernel_rfl)
theorem ratio_both_eq (a : Int) (b : Y.Ratio) : ratio_both a b = o_I64 (ratio_check a b) fun n1 => br (n1 != 0) (some (e_I64_I64_I64 0 0 n1)) (o_I64_I64_B (ratio_divide a b) fun n2 n3 b4 => br (!b4) (some (e_I64_I64_I64 0 0 2)) (br (decide (n2 < -4611686018427387904)) (some (e_I64_I64_I64 0 0 2)) (some (e_I64_I64_I64 n2 n3 0)))) := (Cf_eq 269 _).trans (by kernel_rfl)
theorem slices_ContainsFunc_G__offer_Has_1_eq (a : List (List D)) (c : Y.Choice) : slices_ContainsFunc_G__offer_Has_1 a c = o_I64_Choice (slices_IndexFunc_G__offer_Has_1 a c) fun n1 x2 => some (e_B_Choice (decide (n1 ≥ 0)) x2) := (Cf_eq 100000 _).trans (by kernel_rfl)
theorem slices_IndexFunc_G__offer_Has_1_eq (a : List (List D)) (c : Y.Choice) : slices_IndexFunc_G__offer_Has_1 a c = slices_IndexFunc_G__offer_Has_1_k104 a (↑a.length : Int) 0 c := (Cf_eq 100006 _).trans (by kernel_rfl)
theorem slices_IndexFunc_G__offer_Has_1_k104_eq (l0 : List (List D)) (n1 n2 : Int) (x3 : Y.Choice) : slices_IndexFunc_G__offer_Has_1_k104 l0 n1 n2 x3 = br (decide (n2 < n1)) (br (inB n2 l0.length) (Y.Box.get (l0.getD n2.toNat []) fun x1 => o_B_Choice (offer_Has_1 x1 x3) fun b2 x3 => br b2 (some (e_I64_Choice n2 x3)) (slices_IndexFunc_G__offer_Has_1_k104 l0 n1 (IntKind.i64.wrap (n2 + 1)) x3)) none) (some (e_I64_Choice (-1) x3)) := (Kf_eq 100006 104 _).trans (by kernel_rfl)
theorem law21_DevicePlain_eq (a : List (List D)) (b c : Int) : law21_DevicePlain a b c = o_B law21_sane fun b1 => br (!b1) (some (e_B false)) (o_Device_I64 law21_plain fun x2 n3 => o_Device_I64 (device_Start x2 (IntKind.i64.wrap (16 * IntKind.i64.wrap c))) fun x4 n5 => br (n3 != 0) (some (e_B false)) (br (n5 != 0) (some (e_B false)) (o_I64 (ref19_Fill x4.Bridge) fun n6 => o_Block_I64 (ref04_Silence 1 n6) fun x7 n8 => o_Made_Dice (made_New a) fun x9 => law21_DevicePlain_k65488 b (IntKind.i64.wrap (16 * IntKind.i64.wrap c)) 0 x4 x7 (Y.Block.mk 1 []) x9))) := (Cf_eq 3 _).trans (by kernel_rfl)
theorem law21_DevicePlain_k65488_eq (n0 n1 n2 : Int) (x3 : Y.Device) (x4 x5 : Y.Block) (x6 : Y.Made_Dice) : law21_DevicePlain_k65488 n0 n1 n2 x3 x4 x5 x6 = br (decide (n2 < IntKind.i64.wrap (n0.tmod 15))) (o_Block_Made_Dice (made_Block x6 1 16) fun x10 x11 => o_Block_I64_I64_Device_I64 (device_Play x3 x10 (IntKind.i64.wrap (n1 + IntKind.i64.wrap (16 * n2))) (IntKind.i64.wrap (n1 + IntKind.i64.wrap (IntKind.i64.wrap (16 * n2) + 16)))) fun x12 n13 n14 x15 n16 => br (n16 != 0) (some (e_B false)) (br (n13 != 0) (some (e_B false)) (br (n14 != 0) (some (e_B false)) (o_Block (ref04_Join x4 x10) fun x17 => o_Block (ref04_Join x5 x12) fun x18 => law21_DevicePlain_k65488 n0 n1 (IntKind.i64.wrap (n2 + 1)) x15 x17 x18 x11)))) (o_B (law21_begins x5 x4) fun b19 => br b19 (o_I64 (ref04_Frames x5) fun n20 => some (e_B (n20 == IntKind.i64.wrap (16 * IntKind.i64.wrap (n0.tmod 15))))) (some (e_B false))) := (Kf_eq 3 65488 _).trans (by kernel_rfl)
theorem ref19_Fill_eq (a : Y.Bridge) : ref19_Fill a = o_B (ref19_Valid a) fun b1 => br (!b1) (some (e_I64 0)) (o_I64 (ref15_Waiting a.Resample) fun n2 => some (e_I64 n2)) := (Cf_eq 15 _).trans (by kernel_rfl)
theorem ref04_Frames_eq (a : Y.Block) : ref04_Frames a = o_B (ref04_Valid a) fun b1 => br (!b1) (some (e_I64 0)) (br (decide (a.Channels = 0)) none (some (e_I64 (IntKind.i64.wrap ((↑a.Data.length : Int).tdiv a.Channels))))) := (Cf_eq 21 _).trans (by kernel_rfl)
theorem made_Descriptor_eq (a : Y.Made_Dice) (b : Int) : made_Descriptor a b = o_I64_Made_Dice (made_Dice_Next a 256) fun n1 x2 => o_I64_Made_Dice (made_Dice_Next x2 3) fun n3 x4 => br (inB n3 3) (gS [([[D.str (ByteArray.mk #[100, 97, 99])], [D.str (ByteArray.mk #[104, 100, 109, 105, 45, 49])], [D.str (ByteArray.mk #[77, 105, 99, 46, 50])]].getD n3.toNat []).getD 0 D.bad] fun s5 => o_I64_Made_Dice (made_Dice_Next x4 4) fun n6 x7 => o_I64_Made_Dice (made_Dice_Next x7 200) fun n8 x9 => o_I64_Made_Dice (made_Dice_Next x9 4) fun n10 x11 => br (inB n10 4) (gI IntKind.i64 [([[D.int IntKind.i64 0], [D.int IntKind.i64 66], [D.int IntKind.i64 200], [D.int IntKind.i64 7]].getD n10.toNat []).getD 0 D.bad] fun n12 => o_I64_Made_Dice (made_Dice_Next x11 4) fun n13 x14 => o_L4_Made_Dice (made_Boxes x14 1 2) fun l15 x16 => some (e_Descriptor_Made_Dice (Y.Descriptor.mk (IntKind.u64.wrap n1) s5 b n6 n8 n12 n13 l15) x16)) none) none := (Cf_eq 39 _).trans (by kernel_rfl)
theorem device_check_eq (a : Y.Device) (b : Int) (c : Y.Block) (d e : Int) : device_check a b c d e = o_B (device_unit_valid (Y.Device_unit.mk a)) fun b1 => br (!b1) (some (e_I64_I64 0 1)) (o_B (sample_Valid c) fun b2 => br (!b2) (some (e_I64_I64 0 1)) (br (a.Descriptor.Direction != b) (some (e_I64_I64 0 1)) (o_I64 (device_unit_ports (Y.Device_unit.mk a)) fun n3 => br (c.Channels != n3) (some (e_I64_I64 0 11)) (o_I64_I64 (device_Due a d e) fun n4 n5 => some (e_I64_I64 n4 n5))))) := (Cf_eq 57 _).trans (by kernel_rfl)
theorem clock_Between_eq (a : Y.Clock) (b c : Int) : clock_Between a b c = o_B (clock_Valid a) fun b1 => br (!b1) (some (e_I64_I64 0 1)) (br (decide (b < 0)) (some (e_I64_I64 0 2)) (br (decide (c > 1099511627776)) (some (e_I64_I64 0 2)) (br (decide (c < b)) (some (e_I64_I64 0 2)) (o_I64 (clock_position a c) fun n2 => o_I64 (clock_position a b) fun n3 => some (e_I64_I64 (IntKind.i64.wrap (n2 - n3)) 0))))) := (Cf_eq 63 _).trans (by kernel_rfl)
theorem made_Map_eq (a : Y.Made_Dice) : made_Map a = o_L1 made_Maps fun l1 => o_I64_Made_Dice (made_Dice_Next a 7) fun n2 x3 => br (inB n2 l1.length) (gL 1 (l1.getD n2.toNat []) fun l4 => some (e_L1_Made_Dice l4 x3)) none := (Cf_eq 81 _).trans (by kernel_rfl)
theorem device_unit_jitter_eq (a : Y.Device_unit) : device_unit_jitter a = o_B (device_unit_playback a) fun b1 => br (!b1) (some (e_I64 (IntKind.i64.wrap (a.Device.Descriptor.Jitter + 1)))) (o_Ratio (device_unit_base a) fun x2 => o_I64_I64 (ratio_Ceil a.Device.Descriptor.Jitter x2) fun n3 n4 => some (e_I64 (IntKind.i64.wrap (n3 + 1)))) := (Cf_eq 87 _).trans (by kernel_rfl)
theorem offer_Has_eq (a : List (List D)) (b : Y.Choice) : offer_Has a b = o_L4 (offer_boxes a) fun l1 => o_B_Choice (slices_ContainsFunc_G__offer_Has_1 l1 b) fun b2 x3 => some (e_B b2) := (Cf_eq 99 _).trans (by kernel_rfl)
theorem slices_Clone_G_int32_int32_eq (a : List (List D)) : slices_Clone_G_int32_int32 a = br (decide (a.length = 0)) (both (some (e_L1 [])) (br (decide ((0 + a.length) * 4 ≤ 140737488355328)) (some (e_L1 ([] ++ a))) none)) (br (decide ((0 + a.length) * 4 ≤ 140737488355328)) (some (e_L1 ([] ++ a))) none) := (Cf_eq 117 _).trans (by kernel_rfl)
theorem ref04_sample_eq (a : Int) : ref04_sample a = br (decide (a ≥ -8388608)) (some (e_B (decide (a ≤ 8388607)))) (some (e_B false)) := (Cf_eq 123 _).trans (by kernel_rfl)
theorem made_Box_eq (a : Y.Made_Dice) : made_Box a = o_I64_Made_Dice (made_Dice_Next a 7) fun n1 x2 => br (decide (IntKind.i64.wrap (1 + n1) < 0)) none (o_I64_Made_Dice (made_Dice_Next x2 3) fun n3 x4 => made_Box_k464 n3 x4 (Y.Box.mk 0 (Y.IntSet.mk []) [] (Y.IntSet.mk [])) (IntKind.i64.wrap (1 * 2 ^ min (IntKind.i64.wrap (1 + n1)).toNat 64)) (Y.IntSet.mk []) (Y.IntSet.mk []) []) := (Cf_eq 141 _).trans (by kernel_rfl)
theorem made_Box_k464_eq (n0 : Int) (x1 : Y.Made_Dice) (x2 : Y.Box) (n3 : Int) (x4 x5 : Y.IntSet) (r6 : List (List D)) : made_Box_k464 n0 x1 x2 n3 x4 x5 r6 = br (decide (n0 > 0)) (o_I64_Made_Dice (made_Dice_Next x1 7) fun n5 x6 => br (decide (IntKind.i64.wrap (1 + n5) < 0)) none (made_Box_k464 (IntKind.i64.wrap (n0 - 1)) x6 x2 (IntKind.i64.wrap (↑(BitVec.ofInt 64 n3 ||| BitVec.ofInt 64 (IntKind.i64.wrap (1 * 2 ^ min (IntKind.i64.wrap (1 + n5)).toNat 64))).toNat : Int)) x4 x5 r6)) (o_IntSet_Made_Dice (made_set x1 [[D.int IntKind.i64 44100, D.int IntKind.i64 44100], [D.int IntKind.i64 48000, D.int IntKind.i64 48000], [D.int IntKind.i64 8000, D.int IntKind.i64 8000], [D.int IntKind.i64 32000, D.int IntKind.i64 50000], [D.int IntKind.i64 96000, D.int IntKind.i64 192000]]) fun x7 x8 => o_IntSet_Made_Dice (made_set x8 [[D.int IntKind.i64 16, D.int IntKind.i64 64], [D.int IntKind.i64 64, D.int IntKind.i64 1024], [D.int IntKind.i64 2048, D.int IntKind.i64 2048], [D.int IntKind.i64 1, D.int IntKind.i64 65536]]) fun x9 x10 => o_I64_Made_Dice (made_Dice_Next x10 3) fun n11 x12 => made_Box_k4048 (IntKind.i64.wrap (1 + n11)) x12 x2 n3 x7 x9 r6) := (Kf_eq 141 464 _).trans (by kernel_rfl)
theorem made_Box_k4048_eq (n0 : Int) (x1 : Y.Made_Dice) (x2 : Y.Box) (n3 : Int) (x4 x5 : Y.IntSet) (r6 : List (List D)) : made_Box_k4048 n0 x1 x2 n3 x4 x5 r6 = br (decide (n0 > 0)) (o_L1_Made_Dice (made_Map x1) fun l13 x14 => made_Box_k1036904 n0 l13 false (↑r6.length : Int) 0 x14 x2 n3 x4 x5 r6) (some (e_Box_Made_Dice (Y.Box.mk n3 x4 r6 x5) x1)) := (Kf_eq 141 4048 _).trans (by kernel_rfl)
theorem made_Box_k1036904_eq (n0 : Int) (l1 : List (List D)) (b2 : Bool) (n3 n4 : Int) (x5 : Y.Made_Dice) (x6 : Y.Box) (n7 : Int) (x8 x9 : Y.IntSet) (r10 : List (List D)) : made_Box_k1036904 n0 l1 b2 n3 n4 x5 x6 n7 x8 x9 r10 = br (decide (n4 < n3)) (br (inB n4 r10.length) (gL 1 [(r10.getD n4.toNat []).getD 0 D.bad] fun l15 => br b2 (made_Box_k1036904 n0 l1 true n3 (IntKind.i64.wrap (n4 + 1)) x5 x6 n7 x8 x9 r10) (br ((↑l15.length : Int) == (↑l1.length : Int)) (br (inB 0 l15.length) (gI IntKind.i64 (l15.getD 0 []) fun n16 => br (inB 0 l1.length) (gI IntKind.i64 (l1.getD 0 []) fun n17 => made_Box_k1036904 n0 l1 (n16 == n17) n3 (IntKind.i64.wrap (n4 + 1)) x5 x6 n7 x8 x9 r10) none) none) (made_Box_k1036904 n0 l1 false n3 (IntKind.i64.wrap (n4 + 1)) x5 x6 n7 x8 x9 r10))) none) (br (!b2) (br (decide ((r10.length + 1) * 24 ≤ 140737488355328)) (made_Box_k4048 (IntKind.i64.wrap (n0 - 1)) x5 x6 n7 x8 x9 (r10 ++ [[D.list 1 l1]])) none) (made_Box_k4048 (IntKind.i64.wrap (n0 - 1)) x5 x6 n7 x8 x9 r10)) := (Kf_eq 141 1036904 _).trans (by kernel_rfl)
theorem clock_usual_eq (a : Y.Ratio) : clock_usual a = o_B (ratio_Valid a) fun b1 => br b1 (br (decide (IntKind.i64.wrap (a.Num * 1024) ≥ a.Den)) (some (e_B (decide (a.Num ≤ IntKind.i64.wrap (a.Den * 1024))))) (some (e_B false))) (some (e_B false)) := (Cf_eq 153 _).trans (by kernel_rfl)
theorem control_declared_eq (a : Y.Ratio) (b c : Int) : control_declared a b c = o_B (control_possible a) fun b1 => br b1 (br (decide (b ≥ 0)) (br (decide (b ≤ 4096)) (br (decide (c ≥ 0)) (some (e_B (decide (c ≤ 65536)))) (some (e_B false))) (some (e_B false))) (some (e_B false))) (some (e_B false)) := (Cf_eq 160 _).trans (by kernel_rfl)
theorem control_Valid_eq (a : Y.Control) : control_Valid a = br (decide (a.Target ≥ 0)) (br (decide (a.Target ≤ 65536)) (br (decide (a.Dead ≥ 0)) (br (decide (a.Dead ≤ 65536)) (br (decide (a.Gain ≥ 1)) (br (decide (a.Gain ≤ 4096)) (br (decide (a.Most ≥ 0)) (some (e_B (decide (a.Most ≤ 4096)))) (some (e_B false))) (some (e_B false))) (some (e_B false))) (some (e_B false))) (some (e_B false))) (some (e_B false))) (some (e_B false)) := (Cf_eq 166 _).trans (by kernel_rfl)
theorem sample_is_eq (a : Int) : sample_is a = br (decide (a ≥ -8388608)) (some (e_B (decide (a ≤ 8388607)))) (some (e_B false)) := (Cf_eq 184 _).trans (by kernel_rfl)
theorem clock_piece_at_eq (a : Y.Clock_piece) (b : Int) : clock_piece_at a b = o_I64_I64 (ratio_Floor (IntKind.i64.wrap (b - a.Segment.From)) a.Segment.Rate) fun n1 n2 => some (e_I64 (IntKind.i64.wrap (a.Begin + n1))) := (Cf_eq 196 _).trans (by kernel_rfl)
theorem intset_Has_1_eq (a : Y.Span) (b : Int) : intset_Has_1 a b = br (decide (a.Lo ≤ b)) (some (e_B_I64 (decide (b ≤ a.Hi)) b)) (some (e_B_I64 false b)) := (Cf_eq 216 _).trans (by kernel_rfl)
theorem control_Adjust_1_eq (a : Int) (b : Y.Control) : control_Adjust_1 a b = some (e_I64_Control (bif false then if IntKind.i64.wrap ((bif true then if IntKind.i64.wrap (a - b.Dead) > 0 then IntKind.i64.wrap (a - b.Dead) else 0 else if IntKind.i64.wrap (a - b.Dead) < 0 then IntKind.i64.wrap (a - b.Dead) else 0) * b.Gain) > b.Most then IntKind.i64.wrap ((bif true then if IntKind.i64.wrap (a - b.Dead) > 0 then IntKind.i64.wrap (a - b.Dead) else 0 else if IntKind.i64.wrap (a - b.Dead) < 0 then IntKind.i64.wrap (a - b.Dead) else 0) * b.Gain) else b.Most else if IntKind.i64.wrap ((bif true then if IntKind.i64.wrap (a - b.Dead) > 0 then IntKind.i64.wrap (a - b.Dead) else 0 else if IntKind.i64.wrap (a - b.Dead) < 0 then IntKind.i64.wrap (a - b.Dead) else 0) * b.Gain) < b.Most then IntKind.i64.wrap ((bif true then if IntKind.i64.wrap (a - b.Dead) > 0 then IntKind.i64.wrap (a - b.Dead) else 0 else if IntKind.i64.wrap (a - b.Dead) < 0 then IntKind.i64.wrap (a - b.Dead) else 0) * b.Gain) else b.Most) b) := (Cf_eq 231 _).trans (by kernel_rfl)
theorem ratio_Floor_eq (a : Int) (b : Y.Ratio) : ratio_Floor a b = o_I64_I64_I64 (ratio_both a b) fun n1 n2 n3 => some (e_I64_I64 n1 n3) := (Cf_eq 244 _).trans (by kernel_rfl)
theorem bits_Len64_eq (a : Int) : bits_Len64 a = br (decide (a ≥ 4294967296)) (br (decide (a.fdiv (2 ^ 32) ≥ 65536)) (br (decide ((a.fdiv (2 ^ 32)).fdiv (2 ^ 16) ≥ 256)) (br (inB (IntKind.u8.wrap (((a.fdiv (2 ^ 32)).fdiv (2 ^ 16)).fdiv (2 ^ 8))) 256) (some (e_I64 (IntKind.i64.wrap (IntKind.i64.wrap (IntKind.i64.wrap (32 + 16) + 8) + IntKind.i64.wrap (↑(len8tab.getD (IntKind.u8.wrap (((a.fdiv (2 ^ 32)).fdiv (2 ^ 16)).fdiv (2 ^ 8))).toNat 0).toNat : Int))))) none) (br (inB (IntKind.u8.wrap ((a.fdiv (2 ^ 32)).fdiv (2 ^ 16))) 256) (some (e_I64 (IntKind.i64.wrap (IntKind.i64.wrap (32 + 16) + IntKind.i64.wrap (↑(len8tab.getD (IntKind.u8.wrap ((a.fdiv (2 ^ 32)).fdiv (2 ^ 16))).toNat 0).toNat : Int))))) none)) (br (decide (a.fdiv (2 ^ 32) ≥ 256)) (br (inB (IntKind.u8.wrap ((a.fdiv (2 ^ 32)).fdiv (2 ^ 8))) 256) (some (e_I64 (IntKind.i64.wrap (IntKind.i64.wrap (32 + 8) + IntKind.i64.wrap (↑(len8tab.getD (IntKind.u8.wrap ((a.fdiv (2 ^ 32)).fdiv (2 ^ 8))).toNat 0).toNat : Int))))) none) (br (inB (IntKind.u8.wrap (a.fdiv (2 ^ 32))) 256) (some (e_I64 (IntKind.i64.wrap (32 + IntKind.i64.wrap (↑(len8tab.getD (IntKind.u8.wrap (a.fdiv (2 ^ 32))).toNat 0).toNat : Int))))) none))) (br (decide (a ≥ 65536)) (br (decide (a.fdiv (2 ^ 16) ≥ 256)) (br (inB (IntKind.u8.wrap ((a.fdiv (2 ^ 16)).fdiv (2 ^ 8))) 256) (some (e_I64 (IntKind.i64.wrap (IntKind.i64.wrap (IntKind.i64.wrap (0 + 16) + 8) + IntKind.i64.wrap (↑(len8tab.getD (IntKind.u8.wrap ((a.fdiv (2 ^ 16)).fdiv (2 ^ 8))).toNat 0).toNat : Int))))) none) (br (inB (IntKind.u8.wrap (a.fdiv (2 ^ 16))) 256) (some (e_I64 (IntKind.i64.wrap (IntKind.i64.wrap (0 + 16) + IntKind.i64.wrap (↑(len8tab.getD (IntKind.u8.wrap (a.fdiv (2 ^ 16))).toNat 0).toNat : Int))))) none)) (br (decide (a ≥ 256)) (br (inB (IntKind.u8.wrap (a.fdiv (2 ^ 8))) 256) (some (e_I64 (IntKind.i64.wrap (IntKind.i64.wrap (0 + 8) + IntKind.i64.wrap (↑(len8tab.getD (IntKind.u8.wrap (a.fdiv (2 ^ 8))).toNat 0).toNat : Int))))) none) (br (inB (IntKind.u8.wrap a) 256) (some (e_I64 (IntKind.i64.wrap (0 + IntKind.i64.wrap (↑(len8tab.getD (IntKind.u8.wrap a).toNat 0).toNat : Int))))) none))) := (Cf_eq 250 _).trans (by kernel_rfl)
theorem intset_Valid_eq (a : Y.IntSet) : intset_Valid a = intset_Valid_k104 a.Spans (↑a.Spans.length : Int) 0 a := (Cf_eq 257 _).trans (by kernel_rfl)
theorem intset_Valid_k104_eq (l0 : List (List D)) (n1 n2 : Int) (x3 : Y.IntSet) : intset_Valid_k104 l0 n1 n2 x3 = br (decide (n2 < n1)) (br (inB n2 l0.length) (Y.Span.get (l0.getD n2.toNat []) fun x1 => o_B (intset_fine x1) fun b2 => br (!b2) (some (e_B false)) (br (decide (n2 > 0)) (br (inB (IntKind.i64.wrap (n2 - 1)) x3.Spans.length) (Y.Span.get (x3.Spans.getD (IntKind.i64.wrap (n2 - 1)).toNat []) fun x3_1 => br (decide (x1.Lo ≤ IntKind.i64.wrap (x3_1.Hi + 1))) (some (e_B false)) (intset_Valid_k104 l0 n1 (IntKind.i64.wrap (n2 + 1)) x3)) none) (intset_Valid_k104 l0 n1 (IntKind.i64.wrap (n2 + 1)) x3))) none) (some (e_B (decide ((↑x3.Spans.length : Int) ≤ 64)))) := (Kf_eq 257 104 _).trans (by kernel_rfl)
theorem phase_Advance_eq (a : Y.Phase) (b : Int) : phase_Advance a b = o_I64_I64_I64 (phase_At a b) fun n1 n2 n3 => br (n3 == 0) (br (decide (n1 > 1125899906842624)) (some (e_Phase_I64 (Y.Phase.mk (Y.Ratio.mk 0 0) 0 0 0) 2)) (br (n3 != 0) (some (e_Phase_I64 (Y.Phase.mk (Y.Ratio.mk 0 0) 0 0 0) n3)) (some (e_Phase_I64 (Y.Phase.mk a.Base a.Adjust n1 n2) 0)))) (br (n3 != 0) (some (e_Phase_I64 (Y.Phase.mk (Y.Ratio.mk 0 0) 0 0 0) n3)) (some (e_Phase_I64 (Y.Phase.mk a.Base a.Adjust n1 n2) 0))) := (Cf_eq 264 _).trans (by kernel_rfl)
theorem slices_ContainsFunc_G__offer_Valid_1_eq (a : List (List D)) : slices_ContainsFunc_G__offer_Valid_1 a = o_I64 (slices_IndexFunc_G__offer_Valid_1 a) fun n1 => some (e_B (decide (n1 ≥ 0))) := (Cf_eq 100001 _).trans (by kernel_rfl)
theorem slices_IndexFunc_G__offer_Valid_1_eq (a : List (List D)) : slices_IndexFunc_G__offer_Valid_1 a = slices_IndexFunc_G__offer_Valid_1_k104 a (↑a.length : Int) 0 := (Cf_eq 100007 _).trans (by kernel_rfl)
theorem slices_IndexFunc_G__offer_Valid_1_k104_eq (l0 : List (List D)) (n1 n2 : Int) : slices_IndexFunc_G__offer_Valid_1_k104 l0 n1 n2 = br (decide (n2 < n1)) (br (inB n2 l0.length) (Y.Box.get (l0.getD n2.toNat []) fun x1 => o_B (offer_Valid_1 x1) fun b2 => br b2 (some (e_I64 n2)) (slices_IndexFunc_G__offer_Valid_1_k104 l0 n1 (IntKind.i64.wrap (n2 + 1)))) none) (some (e_I64 (-1))) := (Kf_eq 100007 104 _).trans (by kernel_rfl)
theorem made_New_eq (a : List (List D)) : made_New a = br (decide ((0 ≤ bif false then if 300 > (↑a.length : Int) then 300 else (↑a.length : Int) else if 300 < (↑a.length : Int) then 300 else (↑a.length : Int)) ∧ (bif false then if 300 > (↑a.length : Int) then 300 else (↑a.length : Int) else if 300 < (↑a.length : Int) then 300 else (↑a.length : Int)) ≤ (↑a.length : Int))) (some (e_Made_Dice (Y.Made_Dice.mk (List.drop 0 (List.take (bif false then if 300 > (↑a.length : Int) then 300 else (↑a.length : Int) else if 300 < (↑a.length : Int) then 300 else (↑a.length : Int)).toNat a))))) none := (Cf_eq 16 _).trans (by kernel_rfl)
theorem made_Dice_Next_eq (a : Y.Made_Dice) (b : Int) : made_Dice_Next a b = br ((↑a.L.length : Int) == 0) (some (e_I64_Made_Dice 0 a)) (br (decide (b ≤ 1)) (some (e_I64_Made_Dice 0 a)) (br (inB 0 a.L.length) (gI IntKind.u8 (a.L.getD 0 []) fun n1 => br (decide ((0 : Int) ≤ 1 ∧ 1 ≤ (↑a.L.length : Int))) (br (decide (b = 0)) none (some (e_I64_Made_Dice ((IntKind.i64.wrap n1).tmod b) (Y.Made_Dice.mk (List.drop 1 (List.take a.L.length a.L)))))) none) none)) := (Cf_eq 40 _).trans (by kernel_rfl)
theorem device_move_eq (a : Y.Device) (b : Y.Block) (c : Int) : device_move a b c = o_Bridge_I64_I64 (bridge_Push a.Bridge b) fun x1 n2 n3 => br (n3 == 0) (o_Block_I64_Bridge_I64 (bridge_Pull x1 c) fun x4 n5 x6 n7 => br (n7 != 0) (some (e_Block_I64_I64_Device_I64 (Y.Block.mk 0 []) 0 0 (Y.Device.mk (Y.Descriptor.mk 0 (ByteArray.mk #[]) 0 0 0 0 0 []) (Y.Choice.mk (Y.Format.mk 0 0 []) 0) 0 0 (Y.Clock.mk []) false 0 (Y.Bridge.mk 0 (Y.Control.mk 0 0 0 0) (Y.Resampler.mk 0 (Y.Phase.mk (Y.Ratio.mk 0 0) 0 0 0) []) 0 0)) n7)) (o_Device (device_own a) fun x8 => some (e_Block_I64_I64_Device_I64 x4 n2 n5 (Y.Device.mk x8.Descriptor x8.Choice x8.Rate x8.Period x8.Clock x8.Running x8.Since x6) 0))) (br (n3 != 0) (some (e_Block_I64_I64_Device_I64 (Y.Block.mk 0 []) 0 0 (Y.Device.mk (Y.Descriptor.mk 0 (ByteArray.mk #[]) 0 0 0 0 0 []) (Y.Choice.mk (Y.Format.mk 0 0 []) 0) 0 0 (Y.Clock.mk []) false 0 (Y.Bridge.mk 0 (Y.Control.mk 0 0 0 0) (Y.Resampler.mk 0 (Y.Phase.mk (Y.Ratio.mk 0 0) 0 0 0) []) 0 0)) n3)) (o_Device (device_own a) fun x9 => some (e_Block_I64_I64_Device_I64 (Y.Block.mk 0 []) n2 0 (Y.Device.mk x9.Descriptor x9.Choice x9.Rate x9.Period x9.Clock x9.Running x9.Since x1) 0))) := (Cf_eq 58 _).trans (by kernel_rfl)
theorem device_unit_valid_eq (a : Y.Device_unit) : device_unit_valid a = o_B (descriptor_Valid a.Device.Descriptor) fun b1 => br b1 (o_B (offer_Has a.Device.Descriptor.Boxes a.Device.Choice) fun b2 => br b2 (o_B (device_unit_set a) fun b3 => br b3 (o_B (clock_Valid a.Device.Clock) fun b4 => br b4 (br (decide (a.Device.Since ≥ 0)) (br (decide (a.Device.Since ≤ 1099511627776)) (o_B (bridge_Valid a.Device.Bridge) fun b5 => br b5 (o_I64 (device_unit_ports a) fun n6 => br (a.Device.Bridge.Resample.Channels == n6) (o_Ratio (device_unit_base a) fun x7 => some (e_B (a.Device.Bridge.Resample.Phase.Base.Num == x7.Num && (a.Device.Bridge.Resample.Phase.Base.Den == x7.Den && true)))) (some (e_B false))) (some (e_B false))) (some (e_B false))) (some (e_B false))) (some (e_B false))) (some (e_B false))) (some (e_B false))) (some (e_B false)) := (Cf_eq 64 _).trans (by kernel_rfl)
theorem ref03_Valid_eq (a : Y.Ratio) : ref03_Valid a = br (decide (a.Num ≥ 1)) (br (decide (a.Den ≥ 1)) (br (decide (a.Num ≤ 68719476736)) (br (decide (a.Den ≤ 68719476736)) (o_I64 (ref03_gcd a.Num a.Den) fun n1 => some (e_B (n1 == 1))) (some (e_B false))) (some (e_B false))) (some (e_B false))) (some (e_B false)) := (Cf_eq 76 _).trans (by kernel_rfl)
theorem device_unit_nominal_eq (a : Y.Device_unit) : device_unit_nominal a = o_Ratio_I64 (ratio_Make a.Device.Choice.Format.Rate a.Device.Rate) fun x1 n2 => some (e_Ratio x1) := (Cf_eq 82 _).trans (by kernel_rfl)
theorem ratio_Inverse_eq (a : Y.Ratio) : ratio_Inverse a = o_B (ratio_Valid a) fun b1 => br (!b1) (some (e_Ratio_I64 (Y.Ratio.mk 0 0) 1)) (some (e_Ratio_I64 (Y.Ratio.mk a.Den a.Num) 0)) := (Cf_eq 88 _).trans (by kernel_rfl)
theorem control_Plan_eq (a : Y.Ratio) (b c d e : Int) : control_Plan a b c d e = o_B (control_declared a b c) fun b1 => br (!b1) (some (e_Control_I64_I64 (Y.Control.mk 0 0 0 0) 0 1)) (br (decide (d < 0)) (some (e_Control_I64_I64 (Y.Control.mk 0 0 0 0) 0 1)) (br (decide (d > 65536)) (some (e_Control_I64_I64 (Y.Control.mk 0 0 0 0) 0 1)) (br (decide (e < 1)) (some (e_Control_I64_I64 (Y.Control.mk 0 0 0 0) 0 1)) (br (decide (e > 4096)) (some (e_Control_I64_I64 (Y.Control.mk 0 0 0 0) 0 1)) (o_I64 (control_up (IntKind.i64.wrap (65536 * b)) (IntKind.i64.wrap (65536 - b))) fun n2 => br (decide (n2 > 4096)) (some (e_Control_I64_I64 (Y.Control.mk 0 0 0 0) 0 2)) (o_I64 (control_wobble a b) fun n3 => o_I64_I64 (control_Bound (Y.Control.mk 0 d e n2) a b c (IntKind.i64.wrap (IntKind.i64.wrap (n3 + c) + 1))) fun n4 n5 => o_I64_I64 (control_Demand (Y.Control.mk 0 d e n2) a b c) fun n6 n7 => br (n5 != 0) (some (e_Control_I64_I64 (Y.Control.mk 0 0 0 0) 0 3)) (br (n7 != 0) (some (e_Control_I64_I64 (Y.Control.mk 0 0 0 0) 0 3)) (br (decide (IntKind.i64.wrap (IntKind.i64.wrap (n6 + n4) + n4) > 65536)) (some (e_Control_I64_I64 (Y.Control.mk 0 0 0 0) 0 3)) (some (e_Control_I64_I64 (Y.Control.mk (IntKind.i64.wrap (n6 + n4)) d e n2) (IntKind.i64.wrap (IntKind.i64.wrap (n6 + n4) + n4)) 0)))))))))) := (Cf_eq 100 _).trans (by kernel_rfl)
theorem slices_Clone_G_api_Box_api_Box_eq (a : List (List D)) : slices_Clone_G_api_Box_api_Box a = br (decide (a.length = 0)) (both (some (e_L4 [])) (br (decide ((0 + a.length) * 80 ≤ 140737488355328)) (some (e_L4 ([] ++ a))) none)) (br (decide ((0 + a.length) * 80 ≤ 140737488355328)) (some (e_L4 ([] ++ a))) none) := (Cf_eq 112 _).trans (by kernel_rfl)
theorem ref15_Valid_eq (a : Y.Resampler) : ref15_Valid a = o_B (ref14_Valid a.Phase) fun b1 => br b1 (o_Block (ref15_block a) fun x2 => o_B (ref04_Valid x2) fun b3 => some (e_B b3)) (some (e_B false)) := (Cf_eq 118 _).trans (by kernel_rfl)
theorem made_Maps_eq : made_Maps = some (e_L1 [[D.list 1 [[D.int IntKind.i64 3]]], [D.list 1 [[D.int IntKind.i64 1], [D.int IntKind.i64 2]]], [D.list 1 [[D.int IntKind.i64 1], [D.int IntKind.i64 2], [D.int IntKind.i64 3], [D.int IntKind.i64 4], [D.int IntKind.i64 5], [D.int IntKind.i64 6]]], [D.list 1 [[D.int IntKind.i64 2], [D.int IntKind.i64 1]]], [D.list 1 [[D.int IntKind.i64 1], [D.int IntKind.i64 2], [D.int IntKind.i64 7], [D.int IntKind.i64 8]]], [D.list 1 [[D.int IntKind.i64 4]]], [D.list 1 [[D.int IntKind.i64 1], [D.int IntKind.i64 3]]]]) := (Cf_eq 142 _).trans (by kernel_rfl)
theorem offer_boxes_eq (a : List (List D)) : offer_boxes a = o_B (offer_Valid a) fun b1 => br (!b1) (some (e_L4 [])) (some (e_L4 a)) := (Cf_eq 155 _).trans (by kernel_rfl)
theorem control_up_eq (a b : Int) : control_up a b = br (decide (b = 0)) none (some (e_I64 (IntKind.i64.wrap ((IntKind.i64.wrap (IntKind.i64.wrap (a + b) - 1)).tdiv b)))) := (Cf_eq 161 _).trans (by kernel_rfl)
theorem resample_Feed_eq (a : Y.Resampler) (b : Y.Block) : resample_Feed a b = o_B (resample_Valid a) fun b1 => br (!b1) (some (e_Resampler_I64 (Y.Resampler.mk 0 (Y.Phase.mk (Y.Ratio.mk 0 0) 0 0 0) []) 1)) (o_B (sample_Valid b) fun b2 => br (!b2) (some (e_Resampler_I64 (Y.Resampler.mk 0 (Y.Phase.mk (Y.Ratio.mk 0 0) 0 0 0) []) 1)) (br (b.Channels != a.Channels) (some (e_Resampler_I64 (Y.Resampler.mk 0 (Y.Phase.mk (Y.Ratio.mk 0 0) 0 0 0) []) 11)) (br (decide (a.Channels = 0)) none (br (decide (IntKind.i64.wrap ((IntKind.i64.wrap ((↑a.Rest.length : Int) + (↑b.Data.length : Int))).tdiv a.Channels) > 65536)) (some (e_Resampler_I64 (Y.Resampler.mk 0 (Y.Phase.mk (Y.Ratio.mk 0 0) 0 0 0) []) 3)) (o_L1 (slices_Concat_G_int32_int32 [[D.list 1 a.Rest], [D.list 1 b.Data]]) fun l3 => some (e_Resampler_I64 (Y.Resampler.mk a.Channels a.Phase l3) 0)))))) := (Cf_eq 167 _).trans (by kernel_rfl)
theorem resample_Waiting_eq (a : Y.Resampler) : resample_Waiting a = o_B (resample_Valid a) fun b1 => br (!b1) (some (e_I64 0)) (br (decide (a.Channels = 0)) none (some (e_I64 (IntKind.i64.wrap ((↑a.Rest.length : Int).tdiv a.Channels))))) := (Cf_eq 185 _).trans (by kernel_rfl)
theorem resample_Valid_eq (a : Y.Resampler) : resample_Valid a = o_B (phase_Valid a.Phase) fun b1 => br b1 (o_Block (resample_rest a) fun x2 => o_B (sample_Valid x2) fun b3 => some (e_B b3)) (some (e_B false)) := (Cf_eq 197 _).trans (by kernel_rfl)
theorem offer_has_1_eq (a b : List (List D)) : offer_has_1 a b = o_B (channels_Same a b) fun b1 => some (e_B_L1 b1 b) := (Cf_eq 218 _).trans (by kernel_rfl)
theorem phase_Make_1_eq (a : Int) (b : Y.Phase) (c : Int) : phase_Make_1 a b c = o_I64 (phase_need b (IntKind.i64.wrap (a + 1))) fun n1 => some (e_B_Phase_I64 (decide (n1 > c)) b c) := (Cf_eq 233 _).trans (by kernel_rfl)
theorem resample_rest_eq (a : Y.Resampler) : resample_rest a = some (e_Block (Y.Block.mk a.Channels a.Rest)) := (Cf_eq 245 _).trans (by kernel_rfl)
theorem ref09_Make_eq (a : List (List D)) : ref09_Make a = ref09_Make_k104 a a (↑a.length : Int) 0 (Y.IntSet.mk []) := (Cf_eq 251 _).trans (by kernel_rfl)
theorem ref09_Make_k104_eq (l0 l1 : List (List D)) (n2 n3 : Int) (x4 : Y.IntSet) : ref09_Make_k104 l0 l1 n2 n3 x4 = br (decide (n3 < n2)) (br (inB n3 l1.length) (Y.Span.get (l1.getD n3.toNat []) fun x1 => br (decide (x1.Lo < 0)) (some (e_IntSet_I64 (Y.IntSet.mk []) 2)) (br (decide (x1.Hi < x1.Lo)) (some (e_IntSet_I64 (Y.IntSet.mk []) 2)) (br (decide (x1.Hi > 2147483647)) (some (e_IntSet_I64 (Y.IntSet.mk []) 2)) (ref09_Make_k104 l0 l1 n2 (IntKind.i64.wrap (n3 + 1)) x4)))) none) (o_L2 (ref09_joined l0) fun l2 => br (decide ((↑l2.length : Int) > 64)) (some (e_IntSet_I64 (Y.IntSet.mk []) 3)) (some (e_IntSet_I64 (Y.IntSet.mk l2) 0))) := (Kf_eq 251 104 _).trans (by kernel_rfl)
theorem slices_Equal_G_int_int_eq (a b : List (List D)) : slices_Equal_G_int_int a b = br ((↑a.length : Int) != (↑b.length : Int)) (some (e_B false)) (slices_Equal_G_int_int_k232 a b (↑a.length : Int) 0) := (Cf_eq 259 _).trans (by kernel_rfl)
theorem slices_Equal_G_int_int_k232_eq (l0 l1 : List (List D)) (n2 n3 : Int) : slices_Equal_G_int_int_k232 l0 l1 n2 n3 = br (decide (n3 < n2)) (br (inB n3 l0.length) (gI IntKind.i64 (l0.getD n3.toNat []) fun n1 => br (inB n3 l1.length) (gI IntKind.i64 (l1.getD n3.toNat []) fun n2_1 => br (n1 != n2_1) (some (e_B false)) (slices_Equal_G_int_int_k232 l0 l1 n2 (IntKind.i64.wrap (n3 + 1)))) none) none) (some (e_B true)) := (Kf_eq 259 232 _).trans (by kernel_rfl)
theorem phase_At_eq (a : Y.Phase) (b : Int) : phase_At a b = o_I64 (phase_check a b) fun n1 => br (n1 != 0) (some (e_I64_I64_I64 0 0 n1)) (o_I64 (phase_ahead a b) fun n2 => o_I64 (phase_parts a) fun n3 => br (decide (n3 = 0)) none (o_I64 (phase_parts a) fun n4 => br (decide (n4 = 0)) none (some (e_I64_I64_I64 (IntKind.i64.wrap (a.Pos + IntKind.i64.wrap (n2.tdiv n3))) (n2.tmod n4) 0)))) := (Cf_eq 265 _).trans (by kernel_rfl)
theorem ref09_joined_eq (a : List (List D)) : ref09_joined a = ref09_joined_k232 a (↑a.length : Int) 0 [] [] := (Cf_eq 271 _).trans (by kernel_rfl)
theorem ref09_joined_k232_eq (l0 : List (List D)) (n1 n2 : Int) (r3 r4 : List (List D)) : ref09_joined_k232 l0 n1 n2 r3 r4 = br (decide (n2 < n1)) (br (inB n2 l0.length) (Y.Span.get (l0.getD n2.toNat []) fun x1 => ref09_joined_k239200 (↑r3.length : Int) l0 n1 n2 x1 r3 r4) none) (ref09_joined_k488 (↑r3.length : Int) 0 r4 r3) := (Kf_eq 271 232 _).trans (by kernel_rfl)
theorem ref09_joined_k239200_eq (n0 : Int) (l1 : List (List D)) (n2 n3 : Int) (x4 : Y.Span) (r5 r6 : List (List D)) : ref09_joined_k239200 n0 l1 n2 n3 x4 r5 r6 = br (decide (n0 > 0)) (br (inB (IntKind.i64.wrap (n0 - 1)) r5.length) (gI IntKind.i64 [(r5.getD (IntKind.i64.wrap (n0 - 1)).toNat []).getD 0 D.bad] fun n2_1 => br (decide (n2_1 > x4.Lo)) (ref09_joined_k239200 (IntKind.i64.wrap (n0 - 1)) l1 n2 n3 x4 r5 r6) (br (decide (0 ≤ n0 ∧ n0 ≤ (↑r5.length : Int))) (br (decide ((List.take (n0.toNat - 0) (List.drop 0 r5)).length * 16 ≤ 140737488355328)) (br (decide (((List.take (n0.toNat - 0) (List.drop 0 r5)).length + 1) * 16 ≤ 140737488355328)) (br (decide (0 ≤ n0 ∧ n0 ≤ (↑r5.length : Int))) (br (decide (((List.take (n0.toNat - 0) (List.drop 0 r5) ++ [[D.int IntKind.i64 x4.Lo, D.int IntKind.i64 x4.Hi]]).length + (List.take (r5.length - n0.toNat) (List.drop n0.toNat r5)).length) * 16 ≤ 140737488355328)) (ref09_joined_k232 l1 n2 (IntKind.i64.wrap (n3 + 1)) (List.take (n0.toNat - 0) (List.drop 0 r5) ++ [x4.enc] ++ List.take (r5.length - n0.toNat) (List.drop n0.toNat r5)) r6) none) none) none) none) none)) none) (br (decide (0 ≤ n0 ∧ n0 ≤ (↑r5.length : Int))) (br (decide ((List.take (n0.toNat - 0) (List.drop 0 r5)).length * 16 ≤ 140737488355328)) (br (decide (((List.take (n0.toNat - 0) (List.drop 0 r5)).length + 1) * 16 ≤ 140737488355328)) (br (decide (0 ≤ n0 ∧ n0 ≤ (↑r5.length : Int))) (br (decide (((List.take (n0.toNat - 0) (List.drop 0 r5) ++ [[D.int IntKind.i64 x4.Lo, D.int IntKind.i64 x4.Hi]]).length + (List.take (r5.length - n0.toNat) (List.drop n0.toNat r5)).length) * 16 ≤ 140737488355328)) (ref09_joined_k232 l1 n2 (IntKind.i64.wrap (n3 + 1)) (List.take (n0.toNat - 0) (List.drop 0 r5) ++ [x4.enc] ++ List.take (r5.length - n0.toNat) (List.drop n0.toNat r5)) r6) none) none) none) none) none) := (Kf_eq 271 239200 _).trans (by kernel_rfl)
theorem ref09_joined_k488_eq (n0 n1 : Int) (r2 r3 : List (List D)) : ref09_joined_k488 n0 n1 r2 r3 = br (decide (n1 < n0)) (br (inB n1 r3.length) (Y.Span.get (sub (r3.getD n1.toNat []) 0 2) fun x3 => br (decide (IntKind.i64.wrap ((↑r2.length : Int) - 1) ≥ 0)) (br (inB (IntKind.i64.wrap ((↑r2.length : Int) - 1)) r2.length) (gI IntKind.i64 [(r2.getD (IntKind.i64.wrap ((↑r2.length : Int) - 1)).toNat []).getD 1 D.bad] fun n4 => br (decide (IntKind.i64.wrap (x3.Lo - 1) ≤ n4)) (br (inB (IntKind.i64.wrap ((↑r2.length : Int) - 1)) r2.length) (gI IntKind.i64 [(r2.getD (IntKind.i64.wrap ((↑r2.length : Int) - 1)).toNat []).getD 1 D.bad] fun n5 => br (inB (IntKind.i64.wrap ((↑r2.length : Int) - 1)) r2.length) (ref09_joined_k488 n0 (IntKind.i64.wrap (n1 + 1)) (r2.set (IntKind.i64.wrap ((↑r2.length : Int) - 1)).toNat (splice (r2.getD (IntKind.i64.wrap ((↑r2.length : Int) - 1)).toNat []) 1 [D.int IntKind.i64 (bif true then if x3.Hi > n5 then x3.Hi else n5 else if x3.Hi < n5 then x3.Hi else n5)])) r3) none) none) (br (decide ((r2.length + 1) * 16 ≤ 140737488355328)) (ref09_joined_k488 n0 (IntKind.i64.wrap (n1 + 1)) (r2 ++ [x3.enc]) r3) none)) none) (br (decide ((r2.length + 1) * 16 ≤ 140737488355328)) (ref09_joined_k488 n0 (IntKind.i64.wrap (n1 + 1)) (r2 ++ [x3.enc]) r3) none)) none) (some (e_L2 r2)) := (Kf_eq 271 488 _).trans (by kernel_rfl)
theorem slices_ContainsFunc_G__intset_Has_1_eq (a : List (List D)) (c : Int) : slices_ContainsFunc_G__intset_Has_1 a c = o_I64_I64 (slices_IndexFunc_G__intset_Has_1 a c) fun n1 n2 => some (e_B_I64 (decide (n1 ≥ 0)) n2) := (Cf_eq 100002 _).trans (by kernel_rfl)
theorem slices_IndexFunc_G__intset_Has_1_eq (a : List (List D)) (c : Int) : slices_IndexFunc_G__intset_Has_1 a c = slices_IndexFunc_G__intset_Has_1_k104 a (↑a.length : Int) 0 c := (Cf_eq 100008 _).trans (by kernel_rfl)
theorem slices_IndexFunc_G__intset_Has_1_k104_eq (l0 : List (List D)) (n1 n2 n3 : Int) : slices_IndexFunc_G__intset_Has_1_k104 l0 n1 n2 n3 = br (decide (n2 < n1)) (br (inB n2 l0.length) (Y.Span.get (l0.getD n2.toNat []) fun x1 => o_B_I64 (intset_Has_1 x1 n3) fun b2 n3 => br b2 (some (e_I64_I64 n2 n3)) (slices_IndexFunc_G__intset_Has_1_k104 l0 n1 (IntKind.i64.wrap (n2 + 1)) n3)) none) (some (e_I64_I64 (-1) n3)) := (Kf_eq 100008 104 _).trans (by kernel_rfl)
theorem law21_sane_eq : law21_sane = o_Device_I64 law21_plain fun x1 n2 => o_Device_I64 (device_Start x1 16) fun x3 n4 => o_I64_I64 (device_Due x3 16 32) fun n5 n6 => o_Block (made_Wave 1 1 0 16) fun x7 => o_Block_I64_I64_Device_I64 (device_Play x3 x7 16 32) fun x8 n9 n10 x11 n12 => br (n2 == 0) (br (n4 == 0) (br (n6 == 0) (br (n12 == 0) (br (n5 == 16) (br ((↑x8.Data.length : Int) == 16) (br (inB 12 x8.Data.length) (gI IntKind.i32 (x8.Data.getD 12 []) fun n13 => br (n13 == 0) (br (inB 13 x8.Data.length) (gI IntKind.i32 (x8.Data.getD 13 []) fun n14 => br (inB 0 x7.Data.length) (gI IntKind.i32 (x7.Data.getD 0 []) fun n15 => br (n14 == n15) (br (n9 == 0) (br (n10 == 0) (o_B (device_Valid x11) fun b16 => br b16 (o_I64 (ref19_Fill x11.Bridge) fun n17 => o_I64 (ref19_Fill x3.Bridge) fun n18 => some (e_B (n17 == n18))) (some (e_B false))) (some (e_B false))) (some (e_B false))) (some (e_B false))) none) none) (some (e_B false))) none) (some (e_B false))) (some (e_B false))) (some (e_B false))) (some (e_B false))) (some (e_B false))) (some (e_B false)) := (Cf_eq 11 _).trans (by kernel_rfl)
theorem made_Block_eq (a : Y.Made_Dice) (b c : Int) : made_Block a b c = made_Block_k464 b c 0 a (Y.Block.mk 0 []) b [] := (Cf_eq 17 _).trans (by kernel_rfl)
theorem made_Block_k464_eq (n0 n1 n2 : Int) (x3 : Y.Made_Dice) (x4 : Y.Block) (n5 : Int) (r6 : List (List D)) : made_Block_k464 n0 n1 n2 x3 x4 n5 r6 = br (decide (n2 < IntKind.i64.wrap (n0 * n1))) (o_I32_Made_Dice (made_Dice_Sample x3) fun n1_1 x2 => br (decide ((r6.length + 1) * 4 ≤ 140737488355328)) (made_Block_k464 n0 n1 (IntKind.i64.wrap (n2 + 1)) x2 x4 n5 (r6 ++ [[D.int IntKind.i32 n1_1]])) none) (some (e_Block_Made_Dice (Y.Block.mk n5 r6) x3)) := (Kf_eq 17 464 _).trans (by kernel_rfl)
theorem made_Wave_eq (a b c d : Int) : made_Wave a b c d = made_Wave_k464 a b c d c (Y.Block.mk 0 []) b [] := (Cf_eq 23 _).trans (by kernel_rfl)
theorem made_Wave_k464_eq (n0 n1 n2 n3 n4 : Int) (x5 : Y.Block) (n6 : Int) (r7 : List (List D)) : made_Wave_k464 n0 n1 n2 n3 n4 x5 n6 r7 = br (decide (n4 < IntKind.i64.wrap (n2 + n3))) (made_Wave_k29840 n0 n1 n2 n3 n4 0 x5 n6 r7) (some (e_Block (Y.Block.mk n6 r7))) := (Kf_eq 23 464 _).trans (by kernel_rfl)
theorem made_Wave_k29840_eq (n0 n1 n2 n3 n4 n5 : Int) (x6 : Y.Block) (n7 : Int) (r8 : List (List D)) : made_Wave_k29840 n0 n1 n2 n3 n4 n5 x6 n7 r8 = br (decide (n5 < n1)) (br (decide ((r8.length + 1) * 4 ≤ 140737488355328)) (made_Wave_k29840 n0 n1 n2 n3 n4 (IntKind.i64.wrap (n5 + 1)) x6 n7 (r8 ++ [[D.int IntKind.i32 (IntKind.i32.wrap (IntKind.i64.wrap (IntKind.i64.wrap ((IntKind.i64.wrap (IntKind.i64.wrap (IntKind.i64.wrap (n4 * 7919) + IntKind.i64.wrap (n5 * 104729)) + IntKind.i64.wrap (n0 * 15485863))).tmod 4001 - 2000) * 1000)))]])) none) (made_Wave_k464 n0 n1 n2 n3 (IntKind.i64.wrap (n4 + 1)) x6 n7 r8) := (Kf_eq 23 29840 _).trans (by kernel_rfl)
theorem device_own_eq (a : Y.Device) : device_own a = o_L4 (slices_Clone_G_api_Box_api_Box a.Descriptor.Boxes) fun l1 => device_own_k232 (↑l1.length : Int) 0 a (Y.Device.mk (Y.Descriptor.mk 0 (ByteArray.mk #[]) 0 0 0 0 0 []) (Y.Choice.mk (Y.Format.mk 0 0 []) 0) 0 0 (Y.Clock.mk []) false 0 (Y.Bridge.mk 0 (Y.Control.mk 0 0 0 0) (Y.Resampler.mk 0 (Y.Phase.mk (Y.Ratio.mk 0 0) 0 0 0) []) 0 0)) l1 := (Cf_eq 53 _).trans (by kernel_rfl)
theorem device_own_k232_eq (n0 n1 : Int) (x2 x3 : Y.Device) (r4 : List (List D)) : device_own_k232 n0 n1 x2 x3 r4 = br (decide (n1 < n0)) (br (inB n1 r4.length) (Y.Box.get (sub (r4.getD n1.toNat []) 0 4) fun x2_1 => o_L2 (slices_Clone_G_api_Span_api_Span x2_1.Rates.Spans) fun l3 => o_L2 (slices_Clone_G_api_Span_api_Span x2_1.Sizes.Spans) fun l4 => o_L1 (slices_Clone_G_int_int_114 x2_1.Maps) fun l5 => device_own_k478440 n1 n0 n1 (↑l5.length : Int) 0 x2 x3 x2_1.Kinds (Y.IntSet.mk l3) (Y.IntSet.mk l4) r4 l5) none) (o_L1 (slices_Clone_G_int_int_115 x2.Choice.Format.Map) fun l6 => o_L3 (slices_Clone_G_api_Segment_api_Segment x2.Clock.Segments) fun l7 => o_L1 (slices_Clone_G_int32_int32 x2.Bridge.Resample.Rest) fun l8 => some (e_Device (Y.Device.mk (Y.Descriptor.mk x2.Descriptor.ID x2.Descriptor.Name x2.Descriptor.Direction x2.Descriptor.Domain x2.Descriptor.Latency x2.Descriptor.Drift x2.Descriptor.Jitter r4) (Y.Choice.mk (Y.Format.mk x2.Choice.Format.Kind x2.Choice.Format.Rate l6) x2.Choice.Size) x2.Rate x2.Period (Y.Clock.mk l7) x2.Running x2.Since (Y.Bridge.mk x2.Bridge.Capacity x2.Bridge.Control (Y.Resampler.mk x2.Bridge.Resample.Channels x2.Bridge.Resample.Phase l8) x2.Bridge.Lost x2.Bridge.Missed)))) := (Kf_eq 53 232 _).trans (by kernel_rfl)
theorem device_own_k478440_eq (n0 n1 n2 n3 n4 : Int) (x5 x6 : Y.Device) (n7 : Int) (x8 x9 : Y.IntSet) (r10 r11 : List (List D)) : device_own_k478440 n0 n1 n2 n3 n4 x5 x6 n7 x8 x9 r10 r11 = br (decide (n4 < n3)) (br (inB n4 r11.length) (gL 1 [(r11.getD n4.toNat []).getD 0 D.bad] fun l9 => o_L1 (slices_Clone_G_int_int_115 l9) fun l10 => br (inB n4 r11.length) (device_own_k478440 n0 n1 n2 n3 (IntKind.i64.wrap (n4 + 1)) x5 x6 n7 x8 x9 r10 (r11.set n4.toNat (D.list 1 l10 :: (List.drop 1 (r11.getD n4.toNat []))))) none) none) (br (inB n0 r10.length) (device_own_k232 n1 (IntKind.i64.wrap (n2 + 1)) x5 x6 (r10.set n0.toNat (D.int IntKind.i64 n7 :: D.list 2 x8.Spans :: D.list 1 r11 :: D.list 2 x9.Spans :: (List.drop 4 (r10.getD n0.toNat []))))) none) := (Kf_eq 53 478440 _).trans (by kernel_rfl)
theorem ref04_Valid_eq (a : Y.Block) : ref04_Valid a = br (decide (a.Channels < 1)) (some (e_B false)) (br (decide (a.Channels > 8)) (some (e_B false)) (br (decide (a.Channels = 0)) none (br ((↑a.Data.length : Int).tmod a.Channels != 0) (some (e_B false)) (br (decide (a.Channels = 0)) none (br (decide (IntKind.i64.wrap ((↑a.Data.length : Int).tdiv a.Channels) > 65536)) (some (e_B false)) (ref04_Valid_k232 a.Data (↑a.Data.length : Int) 0)))))) := (Cf_eq 59 _).trans (by kernel_rfl)
theorem ref04_Valid_k232_eq (l0 : List (List D)) (n1 n2 : Int) : ref04_Valid_k232 l0 n1 n2 = br (decide (n2 < n1)) (br (inB n2 l0.length) (gI IntKind.i32 (l0.getD n2.toNat []) fun n1_1 => o_B (ref04_sample n1_1) fun b2 => br (!b2) (some (e_B false)) (ref04_Valid_k232 l0 n1 (IntKind.i64.wrap (n2 + 1)))) none) (some (e_B true)) := (Kf_eq 59 232 _).trans (by kernel_rfl)
theorem ratio_Ceil_eq (a : Int) (b : Y.Ratio) : ratio_Ceil a b = o_I64 (ratio_check a b) fun n1 => br (n1 != 0) (some (e_I64_I64 0 n1)) (o_I64_I64_B (ratio_divide a b) fun n2 n3 b4 => br b4 (br (decide (n3 > 0)) (br (!b4) (some (e_I64_I64 0 2)) (br (decide (IntKind.i64.wrap (n2 + 1) < -4611686018427387904)) (some (e_I64_I64 0 2)) (br (decide (IntKind.i64.wrap (n2 + 1) > 4611686018427387904)) (some (e_I64_I64 0 2)) (some (e_I64_I64 (IntKind.i64.wrap (n2 + 1)) 0))))) (br (!b4) (some (e_I64_I64 0 2)) (br (decide (n2 < -4611686018427387904)) (some (e_I64_I64 0 2)) (br (decide (n2 > 4611686018427387904)) (some (e_I64_I64 0 2)) (some (e_I64_I64 n2 0)))))) (br (!b4) (some (e_I64_I64 0 2)) (br (decide (n2 < -4611686018427387904)) (some (e_I64_I64 0 2)) (br (decide (n2 > 4611686018427387904)) (some (e_I64_I64 0 2)) (some (e_I64_I64 n2 0)))))) := (Cf_eq 89 _).trans (by kernel_rfl)
theorem bridge_New_eq (a : Int) (b : Y.Ratio) (c : Y.Control) (d e : Int) : bridge_New a b c d e = br (decide (d < 1)) (some (e_Bridge_I64 (Y.Bridge.mk 0 (Y.Control.mk 0 0 0 0) (Y.Resampler.mk 0 (Y.Phase.mk (Y.Ratio.mk 0 0) 0 0 0) []) 0 0) 2)) (br (decide (d > 65536)) (some (e_Bridge_I64 (Y.Bridge.mk 0 (Y.Control.mk 0 0 0 0) (Y.Resampler.mk 0 (Y.Phase.mk (Y.Ratio.mk 0 0) 0 0 0) []) 0 0) 2)) (br (decide (e < 0)) (some (e_Bridge_I64 (Y.Bridge.mk 0 (Y.Control.mk 0 0 0 0) (Y.Resampler.mk 0 (Y.Phase.mk (Y.Ratio.mk 0 0) 0 0 0) []) 0 0) 2)) (br (decide (e > d)) (some (e_Bridge_I64 (Y.Bridge.mk 0 (Y.Control.mk 0 0 0 0) (Y.Resampler.mk 0 (Y.Phase.mk (Y.Ratio.mk 0 0) 0 0 0) []) 0 0) 2)) (o_Resampler_I64 (resample_New a b) fun x1 n2 => br (n2 != 0) (some (e_Bridge_I64 (Y.Bridge.mk 0 (Y.Control.mk 0 0 0 0) (Y.Resampler.mk 0 (Y.Phase.mk (Y.Ratio.mk 0 0) 0 0 0) []) 0 0) 1)) (o_B (control_Valid c) fun b3 => br (!b3) (some (e_Bridge_I64 (Y.Bridge.mk 0 (Y.Control.mk 0 0 0 0) (Y.Resampler.mk 0 (Y.Phase.mk (Y.Ratio.mk 0 0) 0 0 0) []) 0 0) 1)) (o_Block_I64 (sample_Silence a e) fun x4 n5 => o_Resampler_I64 (resample_Feed x1 x4) fun x6 n7 => some (e_Bridge_I64 (Y.Bridge.mk d c x6 0 0) 0))))))) := (Cf_eq 101 _).trans (by kernel_rfl)
theorem slices_Clone_G_api_Span_api_Span_eq (a : List (List D)) : slices_Clone_G_api_Span_api_Span a = br (decide (a.length = 0)) (both (some (e_L2 [])) (br (decide ((0 + a.length) * 16 ≤ 140737488355328)) (some (e_L2 ([] ++ a))) none)) (br (decide ((0 + a.length) * 16 ≤ 140737488355328)) (some (e_L2 ([] ++ a))) none) := (Cf_eq 113 _).trans (by kernel_rfl)
theorem ref18_Valid_eq (a : Y.Control) : ref18_Valid a = br (decide (a.Target ≥ 0)) (br (decide (a.Target ≤ 65536)) (br (decide (a.Dead ≥ 0)) (br (decide (a.Dead ≤ 65536)) (br (decide (a.Gain ≥ 1)) (br (decide (a.Gain ≤ 4096)) (br (decide (a.Most ≥ 0)) (some (e_B (decide (a.Most ≤ 4096)))) (some (e_B false))) (some (e_B false))) (some (e_B false))) (some (e_B false))) (some (e_B false))) (some (e_B false))) (some (e_B false)) := (Cf_eq 119 _).trans (by kernel_rfl)
theorem ratio_Make_eq (a b : Int) : ratio_Make a b = br (decide (a < 1)) (some (e_Ratio_I64 (Y.Ratio.mk 0 0) 1)) (br (decide (b < 1)) (some (e_Ratio_I64 (Y.Ratio.mk 0 0) 1)) (o_I64 (ratio_divisor a b) fun n1 => br (decide (n1 = 0)) none (br (decide (n1 = 0)) none (br (decide (IntKind.i64.wrap (a.tdiv n1) > 68719476736)) (some (e_Ratio_I64 (Y.Ratio.mk 0 0) 2)) (br (decide (IntKind.i64.wrap (b.tdiv n1) > 68719476736)) (some (e_Ratio_I64 (Y.Ratio.mk 0 0) 2)) (some (e_Ratio_I64 (Y.Ratio.mk (IntKind.i64.wrap (a.tdiv n1)) (IntKind.i64.wrap (b.tdiv n1))) 0))))))) := (Cf_eq 143 _).trans (by kernel_rfl)
theorem offer_Has_1_eq (a : Y.Box) (b : Y.Choice) : offer_Has_1 a b = o_B (offer_kind a b.Format.Kind) fun b1 => br b1 (o_B (intset_Has a.Rates b.Format.Rate) fun b2 => br b2 (o_B (offer_has a.Maps b.Format.Map) fun b3 => br b3 (o_B (intset_Has a.Sizes b.Size) fun b4 => some (e_B_Choice b4 b)) (some (e_B_Choice false b))) (some (e_B_Choice false b))) (some (e_B_Choice false b)) := (Cf_eq 156 _).trans (by kernel_rfl)
theorem control_wobble_eq (a : Y.Ratio) (b : Int) : control_wobble a b = o_I64 (control_up (IntKind.i64.wrap (IntKind.i64.wrap (2 * b) * a.Num)) (IntKind.i64.wrap (65536 * a.Den))) fun n1 => some (e_I64 n1) := (Cf_eq 162 _).trans (by kernel_rfl)
theorem phase_Retune_eq (a : Y.Phase) (b : Int) : phase_Retune a b = o_B (phase_Valid a) fun b1 => br (!b1) (some (e_Phase_I64 (Y.Phase.mk (Y.Ratio.mk 0 0) 0 0 0) 1)) (o_B (phase_tuned b) fun b2 => br (!b2) (some (e_Phase_I64 (Y.Phase.mk (Y.Ratio.mk 0 0) 0 0 0) 2)) (some (e_Phase_I64 (Y.Phase.mk a.Base b a.Pos a.Frac) 0))) := (Cf_eq 186 _).trans (by kernel_rfl)
theorem bits_LeadingZeros64_eq (a : Int) : bits_LeadingZeros64 a = o_I64 (bits_Len64 a) fun n1 => some (e_I64 (IntKind.i64.wrap (64 - n1))) := (Cf_eq 204 _).trans (by kernel_rfl)
theorem channels_Same_eq (a b : List (List D)) : channels_Same a b = o_B (slices_Equal_G_int_int a b) fun b1 => some (e_B b1) := (Cf_eq 219 _).trans (by kernel_rfl)
theorem phase_need_eq (a : Y.Phase) (b : Int) : phase_need a b = br (b == 0) (some (e_I64 0)) (o_I64 (phase_ahead a (IntKind.i64.wrap (b - 1))) fun n1 => o_I64 (phase_parts a) fun n2 => br (decide (n2 = 0)) none (o_I64 (phase_ahead a b) fun n3 => o_I64 (phase_parts a) fun n4 => br (decide (n4 = 0)) none (some (e_I64 (bif true then if IntKind.i64.wrap (n3.tdiv n4) > IntKind.i64.wrap (IntKind.i64.wrap (n1.tdiv n2) + 2) then IntKind.i64.wrap (n3.tdiv n4) else IntKind.i64.wrap (IntKind.i64.wrap (n1.tdiv n2) + 2) else if IntKind.i64.wrap (n3.tdiv n4) < IntKind.i64.wrap (IntKind.i64.wrap (n1.tdiv n2) + 2) then IntKind.i64.wrap (n3.tdiv n4) else IntKind.i64.wrap (IntKind.i64.wrap (n1.tdiv n2) + 2)))))) := (Cf_eq 234 _).trans (by kernel_rfl)
theorem resample_frame_eq (a : Y.Resampler) (b : Int) : resample_frame a b = br (decide (0 ≤ IntKind.i64.wrap ((bif false then if IntKind.i64.wrap ((↑a.Rest.length : Int) - a.Channels) > IntKind.i64.wrap (b * a.Channels) then IntKind.i64.wrap ((↑a.Rest.length : Int) - a.Channels) else IntKind.i64.wrap (b * a.Channels) else if IntKind.i64.wrap ((↑a.Rest.length : Int) - a.Channels) < IntKind.i64.wrap (b * a.Channels) then IntKind.i64.wrap ((↑a.Rest.length : Int) - a.Channels) else IntKind.i64.wrap (b * a.Channels)) + a.Channels) ∧ IntKind.i64.wrap ((bif false then if IntKind.i64.wrap ((↑a.Rest.length : Int) - a.Channels) > IntKind.i64.wrap (b * a.Channels) then IntKind.i64.wrap ((↑a.Rest.length : Int) - a.Channels) else IntKind.i64.wrap (b * a.Channels) else if IntKind.i64.wrap ((↑a.Rest.length : Int) - a.Channels) < IntKind.i64.wrap (b * a.Channels) then IntKind.i64.wrap ((↑a.Rest.length : Int) - a.Channels) else IntKind.i64.wrap (b * a.Channels)) + a.Channels) ≤ (↑a.Rest.length : Int))) (br (decide (0 ≤ IntKind.i64.wrap ((bif false then if IntKind.i64.wrap ((↑a.Rest.length : Int) - a.Channels) > IntKind.i64.wrap (b * a.Channels) then IntKind.i64.wrap ((↑a.Rest.length : Int) - a.Channels) else IntKind.i64.wrap (b * a.Channels) else if IntKind.i64.wrap ((↑a.Rest.length : Int) - a.Channels) < IntKind.i64.wrap (b * a.Channels) then IntKind.i64.wrap ((↑a.Rest.length : Int) - a.Channels) else IntKind.i64.wrap (b * a.Channels)) + a.Channels) ∧ IntKind.i64.wrap ((bif false then if IntKind.i64.wrap ((↑a.Rest.length : Int) - a.Channels) > IntKind.i64.wrap (b * a.Channels) then IntKind.i64.wrap ((↑a.Rest.length : Int) - a.Channels) else IntKind.i64.wrap (b * a.Channels) else if IntKind.i64.wrap ((↑a.Rest.length : Int) - a.Channels) < IntKind.i64.wrap (b * a.Channels) then IntKind.i64.wrap ((↑a.Rest.length : Int) - a.Channels) else IntKind.i64.wrap (b * a.Channels)) + a.Channels) ≤ (↑(IntKind.i64.wrap ((bif false then if IntKind.i64.wrap ((↑a.Rest.length : Int) - a.Channels) > IntKind.i64.wrap (b * a.Channels) then IntKind.i64.wrap ((↑a.Rest.length : Int) - a.Channels) else IntKind.i64.wrap (b * a.Channels) else if IntKind.i64.wrap ((↑a.Rest.length : Int) - a.Channels) < IntKind.i64.wrap (b * a.Channels) then IntKind.i64.wrap ((↑a.Rest.length : Int) - a.Channels) else IntKind.i64.wrap (b * a.Channels)) + a.Channels)).toNat : Int))) (br (decide ((0 ≤ bif false then if IntKind.i64.wrap ((↑a.Rest.length : Int) - a.Channels) > IntKind.i64.wrap (b * a.Channels) then IntKind.i64.wrap ((↑a.Rest.length : Int) - a.Channels) else IntKind.i64.wrap (b * a.Channels) else if IntKind.i64.wrap ((↑a.Rest.length : Int) - a.Channels) < IntKind.i64.wrap (b * a.Channels) then IntKind.i64.wrap ((↑a.Rest.length : Int) - a.Channels) else IntKind.i64.wrap (b * a.Channels)) ∧ (bif false then if IntKind.i64.wrap ((↑a.Rest.length : Int) - a.Channels) > IntKind.i64.wrap (b * a.Channels) then IntKind.i64.wrap ((↑a.Rest.length : Int) - a.Channels) else IntKind.i64.wrap (b * a.Channels) else if IntKind.i64.wrap ((↑a.Rest.length : Int) - a.Channels) < IntKind.i64.wrap (b * a.Channels) then IntKind.i64.wrap ((↑a.Rest.length : Int) - a.Channels) else IntKind.i64.wrap (b * a.Channels)) ≤ (↑(IntKind.i64.wrap ((bif false then if IntKind.i64.wrap ((↑a.Rest.length : Int) - a.Channels) > IntKind.i64.wrap (b * a.Channels) then IntKind.i64.wrap ((↑a.Rest.length : Int) - a.Channels) else IntKind.i64.wrap (b * a.Channels) else if IntKind.i64.wrap ((↑a.Rest.length : Int) - a.Channels) < IntKind.i64.wrap (b * a.Channels) then IntKind.i64.wrap ((↑a.Rest.length : Int) - a.Channels) else IntKind.i64.wrap (b * a.Channels)) + a.Channels)).toNat : Int))) (some (e_L1 (List.drop (bif false then if IntKind.i64.wrap ((↑a.Rest.length : Int) - a.Channels) > IntKind.i64.wrap (b * a.Channels) then IntKind.i64.wrap ((↑a.Rest.length : Int) - a.Channels) else IntKind.i64.wrap (b * a.Channels) else if IntKind.i64.wrap ((↑a.Rest.length : Int) - a.Channels) < IntKind.i64.wrap (b * a.Channels) then IntKind.i64.wrap ((↑a.Rest.length : Int) - a.Channels) else IntKind.i64.wrap (b * a.Channels)).toNat (List.take (IntKind.i64.wrap ((bif false then if IntKind.i64.wrap ((↑a.Rest.length : Int) - a.Channels) > IntKind.i64.wrap (b * a.Channels) then IntKind.i64.wrap ((↑a.Rest.length : Int) - a.Channels) else IntKind.i64.wrap (b * a.Channels) else if IntKind.i64.wrap ((↑a.Rest.length : Int) - a.Channels) < IntKind.i64.wrap (b * a.Channels) then IntKind.i64.wrap ((↑a.Rest.length : Int) - a.Channels) else IntKind.i64.wrap (b * a.Channels)) + a.Channels)).toNat a.Rest)))) none) none) none := (Cf_eq 266 _).trans (by kernel_rfl)
theorem slices_Contains_G_int_int_eq (a : List (List D)) (b : Int) : slices_Contains_G_int_int a b = o_I64 (slices_Index_G_int_int a b) fun n1 => some (e_B (decide (n1 ≥ 0))) := (Cf_eq 272 _).trans (by kernel_rfl)
theorem slices_ContainsFunc_G__offer_has_1_eq (a c : List (List D)) : slices_ContainsFunc_G__offer_has_1 a c = o_I64_L1 (slices_IndexFunc_G__offer_has_1 a c) fun n1 l2 => some (e_B_L1 (decide (n1 ≥ 0)) l2) := (Cf_eq 100003 _).trans (by kernel_rfl)
theorem slices_IndexFunc_G__offer_has_1_eq (a c : List (List D)) : slices_IndexFunc_G__offer_has_1 a c = slices_IndexFunc_G__offer_has_1_k104 a (↑a.length : Int) 0 c := (Cf_eq 100009 _).trans (by kernel_rfl)
theorem slices_IndexFunc_G__offer_has_1_k104_eq (l0 : List (List D)) (n1 n2 : Int) (l3 : List (List D)) : slices_IndexFunc_G__offer_has_1_k104 l0 n1 n2 l3 = br (decide (n2 < n1)) (br (inB n2 l0.length) (gL 1 (l0.getD n2.toNat []) fun l1 => o_B_L1 (offer_has_1 l1 l3) fun b2 l3 => br b2 (some (e_I64_L1 n2 l3)) (slices_IndexFunc_G__offer_has_1_k104 l0 n1 (IntKind.i64.wrap (n2 + 1)) l3)) none) (some (e_I64_L1 (-1) l3)) := (Kf_eq 100009 104 _).trans (by kernel_rfl)
theorem law21_plain_eq : law21_plain = o_Made_Dice (made_New []) fun x1 => o_Descriptor_Made_Dice (made_Descriptor x1 1) fun x2 x3 => o_Device_I64 (device_Open (Y.Descriptor.mk x2.ID x2.Name x2.Direction x2.Domain x2.Latency x2.Drift x2.Jitter [[D.int IntKind.i64 4, D.list 2 [[D.int IntKind.i64 48000, D.int IntKind.i64 48000]], D.list 1 [[D.list 1 [[D.int IntKind.i64 3]]]], D.list 2 [[D.int IntKind.i64 64, D.int IntKind.i64 64]]]]) (Y.Choice.mk (Y.Format.mk 2 48000 [[D.int IntKind.i64 3]]) 64) (Y.Clock.mk [[D.int IntKind.i64 0, D.int IntKind.i64 1, D.int IntKind.i64 1]]) 48000 16) fun x4 n5 => some (e_Device_I64 x4 n5) := (Cf_eq 12 _).trans (by kernel_rfl)
theorem device_Play_eq (a : Y.Device) (b : Y.Block) (c d : Int) : device_Play a b c d = o_I64_I64 (device_check a 1 b c d) fun n1 n2 => br (n2 != 0) (some (e_Block_I64_I64_Device_I64 (Y.Block.mk 0 []) 0 0 (Y.Device.mk (Y.Descriptor.mk 0 (ByteArray.mk #[]) 0 0 0 0 0 []) (Y.Choice.mk (Y.Format.mk 0 0 []) 0) 0 0 (Y.Clock.mk []) false 0 (Y.Bridge.mk 0 (Y.Control.mk 0 0 0 0) (Y.Resampler.mk 0 (Y.Phase.mk (Y.Ratio.mk 0 0) 0 0 0) []) 0 0)) n2)) (br (!a.Running) (o_Device (device_own a) fun x3 => some (e_Block_I64_I64_Device_I64 (Y.Block.mk b.Channels []) 0 0 x3 0)) (o_Block_I64_I64_Device_I64 (device_move a b n1) fun x4 n5 n6 x7 n8 => some (e_Block_I64_I64_Device_I64 x4 n5 n6 x7 n8))) := (Cf_eq 18 _).trans (by kernel_rfl)
theorem device_Due_eq (a : Y.Device) (b c : Int) : device_Due a b c = o_B (device_Valid a) fun b1 => br (!b1) (some (e_I64_I64 0 1)) (br (decide (b < 0)) (some (e_I64_I64 0 2)) (br (decide (c > 1099511627776)) (some (e_I64_I64 0 2)) (br (decide (c < b)) (some (e_I64_I64 0 2)) (br (!a.Running) (some (e_I64_I64 0 0)) (br (decide (c ≤ bif true then if a.Since > b then a.Since else b else if a.Since < b then a.Since else b)) (some (e_I64_I64 0 0)) (o_I64_I64 (clock_Between a.Clock (bif true then if a.Since > b then a.Since else b else if a.Since < b then a.Since else b) c) fun n2 n3 => br (decide (n2 > 65536)) (some (e_I64_I64 0 3)) (some (e_I64_I64 n2 0)))))))) := (Cf_eq 24 _).trans (by kernel_rfl)
theorem device_Open_eq (a : Y.Descriptor) (b : Y.Choice) (c : Y.Clock) (d e : Int) : device_Open a b c d e = o_B (descriptor_Valid a) fun b1 => br (!b1) (some (e_Device_I64 (Y.Device.mk (Y.Descriptor.mk 0 (ByteArray.mk #[]) 0 0 0 0 0 []) (Y.Choice.mk (Y.Format.mk 0 0 []) 0) 0 0 (Y.Clock.mk []) false 0 (Y.Bridge.mk 0 (Y.Control.mk 0 0 0 0) (Y.Resampler.mk 0 (Y.Phase.mk (Y.Ratio.mk 0 0) 0 0 0) []) 0 0)) 1)) (o_B (clock_Valid c) fun b2 => br (!b2) (some (e_Device_I64 (Y.Device.mk (Y.Descriptor.mk 0 (ByteArray.mk #[]) 0 0 0 0 0 []) (Y.Choice.mk (Y.Format.mk 0 0 []) 0) 0 0 (Y.Clock.mk []) false 0 (Y.Bridge.mk 0 (Y.Control.mk 0 0 0 0) (Y.Resampler.mk 0 (Y.Phase.mk (Y.Ratio.mk 0 0) 0 0 0) []) 0 0)) 1)) (o_B (device_unit_set (Y.Device_unit.mk (Y.Device.mk a b d e c false 0 (Y.Bridge.mk 0 (Y.Control.mk 0 0 0 0) (Y.Resampler.mk 0 (Y.Phase.mk (Y.Ratio.mk 0 0) 0 0 0) []) 0 0)))) fun b3 => br (!b3) (some (e_Device_I64 (Y.Device.mk (Y.Descriptor.mk 0 (ByteArray.mk #[]) 0 0 0 0 0 []) (Y.Choice.mk (Y.Format.mk 0 0 []) 0) 0 0 (Y.Clock.mk []) false 0 (Y.Bridge.mk 0 (Y.Control.mk 0 0 0 0) (Y.Resampler.mk 0 (Y.Phase.mk (Y.Ratio.mk 0 0) 0 0 0) []) 0 0)) 1)) (o_B (offer_Has a.Boxes b) fun b4 => br (!b4) (some (e_Device_I64 (Y.Device.mk (Y.Descriptor.mk 0 (ByteArray.mk #[]) 0 0 0 0 0 []) (Y.Choice.mk (Y.Format.mk 0 0 []) 0) 0 0 (Y.Clock.mk []) false 0 (Y.Bridge.mk 0 (Y.Control.mk 0 0 0 0) (Y.Resampler.mk 0 (Y.Phase.mk (Y.Ratio.mk 0 0) 0 0 0) []) 0 0)) 7)) (o_Ratio (device_unit_nominal (Y.Device_unit.mk (Y.Device.mk a b d e c false 0 (Y.Bridge.mk 0 (Y.Control.mk 0 0 0 0) (Y.Resampler.mk 0 (Y.Phase.mk (Y.Ratio.mk 0 0) 0 0 0) []) 0 0)))) fun x5 => br (decide (IntKind.i64.wrap (x5.Num * 64) < x5.Den)) (some (e_Device_I64 (Y.Device.mk (Y.Descriptor.mk 0 (ByteArray.mk #[]) 0 0 0 0 0 []) (Y.Choice.mk (Y.Format.mk 0 0 []) 0) 0 0 (Y.Clock.mk []) false 0 (Y.Bridge.mk 0 (Y.Control.mk 0 0 0 0) (Y.Resampler.mk 0 (Y.Phase.mk (Y.Ratio.mk 0 0) 0 0 0) []) 0 0)) 11)) (br (decide (x5.Num > IntKind.i64.wrap (x5.Den * 64))) (some (e_Device_I64 (Y.Device.mk (Y.Descriptor.mk 0 (ByteArray.mk #[]) 0 0 0 0 0 []) (Y.Choice.mk (Y.Format.mk 0 0 []) 0) 0 0 (Y.Clock.mk []) false 0 (Y.Bridge.mk 0 (Y.Control.mk 0 0 0 0) (Y.Resampler.mk 0 (Y.Phase.mk (Y.Ratio.mk 0 0) 0 0 0) []) 0 0)) 11)) (o_Ratio (device_unit_inputs (Y.Device_unit.mk (Y.Device.mk a b d e c false 0 (Y.Bridge.mk 0 (Y.Control.mk 0 0 0 0) (Y.Resampler.mk 0 (Y.Phase.mk (Y.Ratio.mk 0 0) 0 0 0) []) 0 0)))) fun x6 => o_I64_I64 (ratio_Ceil 1 x6) fun n7 n8 => o_I64 (device_unit_jitter (Y.Device_unit.mk (Y.Device.mk a b d e c false 0 (Y.Bridge.mk 0 (Y.Control.mk 0 0 0 0) (Y.Resampler.mk 0 (Y.Phase.mk (Y.Ratio.mk 0 0) 0 0 0) []) 0 0)))) fun n9 => o_Control_I64_I64 (control_Plan x6 a.Drift n9 (IntKind.i64.wrap (n7.tdiv 4)) 16) fun x10 n11 n12 => br (n12 != 0) (some (e_Device_I64 (Y.Device.mk (Y.Descriptor.mk 0 (ByteArray.mk #[]) 0 0 0 0 0 []) (Y.Choice.mk (Y.Format.mk 0 0 []) 0) 0 0 (Y.Clock.mk []) false 0 (Y.Bridge.mk 0 (Y.Control.mk 0 0 0 0) (Y.Resampler.mk 0 (Y.Phase.mk (Y.Ratio.mk 0 0) 0 0 0) []) 0 0)) n12)) (o_I64 (device_unit_ports (Y.Device_unit.mk (Y.Device.mk a b d e c false 0 (Y.Bridge.mk 0 (Y.Control.mk 0 0 0 0) (Y.Resampler.mk 0 (Y.Phase.mk (Y.Ratio.mk 0 0) 0 0 0) []) 0 0)))) fun n13 => o_Ratio (device_unit_base (Y.Device_unit.mk (Y.Device.mk a b d e c false 0 (Y.Bridge.mk 0 (Y.Control.mk 0 0 0 0) (Y.Resampler.mk 0 (Y.Phase.mk (Y.Ratio.mk 0 0) 0 0 0) []) 0 0)))) fun x14 => o_Bridge_I64 (bridge_New n13 x14 x10 n11 (bif true then if IntKind.i64.wrap (x10.Target - n7) > 0 then IntKind.i64.wrap (x10.Target - n7) else 0 else if IntKind.i64.wrap (x10.Target - n7) < 0 then IntKind.i64.wrap (x10.Target - n7) else 0)) fun x15 n16 => br (n16 != 0) (some (e_Device_I64 (Y.Device.mk (Y.Descriptor.mk 0 (ByteArray.mk #[]) 0 0 0 0 0 []) (Y.Choice.mk (Y.Format.mk 0 0 []) 0) 0 0 (Y.Clock.mk []) false 0 (Y.Bridge.mk 0 (Y.Control.mk 0 0 0 0) (Y.Resampler.mk 0 (Y.Phase.mk (Y.Ratio.mk 0 0) 0 0 0) []) 0 0)) n16)) (o_Device (device_own (Y.Device.mk a b d e c false 0 x15)) fun x17 => some (e_Device_I64 x17 0))))))))) := (Cf_eq 48 _).trans (by kernel_rfl)
theorem ref19_Valid_eq (a : Y.Bridge) : ref19_Valid a = o_B (ref15_Valid a.Resample) fun b1 => br b1 (o_B (ref18_Valid a.Control) fun b2 => br b2 (br (decide (a.Capacity ≥ 1)) (br (decide (a.Capacity ≤ 65536)) (o_I64 (ref15_Waiting a.Resample) fun n3 => br (decide (n3 ≤ a.Capacity)) (br (decide (a.Lost ≥ 0)) (some (e_B (decide (a.Missed ≥ 0)))) (some (e_B false))) (some (e_B false))) (some (e_B false))) (some (e_B false))) (some (e_B false))) (some (e_B false)) := (Cf_eq 54 _).trans (by kernel_rfl)
theorem ref04_Cut_eq (a : Y.Block) (b c : Int) : ref04_Cut a b c = br (decide (0 ≤ IntKind.i64.wrap (c * a.Channels) ∧ IntKind.i64.wrap (c * a.Channels) ≤ (↑a.Data.length : Int))) (br (decide (0 ≤ IntKind.i64.wrap (b * a.Channels) ∧ IntKind.i64.wrap (b * a.Channels) ≤ (↑(IntKind.i64.wrap (c * a.Channels)).toNat : Int))) (br (decide ((List.drop (IntKind.i64.wrap (b * a.Channels)).toNat (List.take (IntKind.i64.wrap (c * a.Channels)).toNat a.Data)).length * 4 ≤ 140737488355328)) (some (e_Block (Y.Block.mk a.Channels (List.drop (IntKind.i64.wrap (b * a.Channels)).toNat (List.take (IntKind.i64.wrap (c * a.Channels)).toNat a.Data))))) none) none) none := (Cf_eq 60 _).trans (by kernel_rfl)
theorem ref04_SameData_eq (a b : List (List D)) : ref04_SameData a b = br ((↑a.length : Int) != (↑b.length : Int)) (some (e_B false)) (ref04_SameData_k232 a b (↑a.length : Int) 0) := (Cf_eq 72 _).trans (by kernel_rfl)
theorem ref04_SameData_k232_eq (l0 l1 : List (List D)) (n2 n3 : Int) : ref04_SameData_k232 l0 l1 n2 n3 = br (decide (n3 < n2)) (br (inB n3 l0.length) (gI IntKind.i32 (l0.getD n3.toNat []) fun n1 => br (inB n3 l1.length) (gI IntKind.i32 (l1.getD n3.toNat []) fun n2_1 => br (n1 != n2_1) (some (e_B false)) (ref04_SameData_k232 l0 l1 n2 (IntKind.i64.wrap (n3 + 1)))) none) none) (some (e_B true)) := (Kf_eq 72 232 _).trans (by kernel_rfl)
theorem descriptor_Valid_eq (a : Y.Descriptor) : descriptor_Valid a = o_B (words_Name a.Name) fun b1 => br (!b1) (some (e_B false)) (br (a.Direction != 1) (br (a.Direction != 2) (some (e_B false)) (br (decide (a.Domain < 0)) (some (e_B false)) (br (decide (a.Domain > 65535)) (some (e_B false)) (br (decide (a.Latency < 0)) (some (e_B false)) (br (decide (a.Latency > 1048576)) (some (e_B false)) (br (decide (a.Drift < 0)) (some (e_B false)) (br (decide (a.Drift > 2048)) (some (e_B false)) (br (decide (a.Jitter < 0)) (some (e_B false)) (br (decide (a.Jitter > 4096)) (some (e_B false)) (br (decide ((↑a.Boxes.length : Int) ≥ 1)) (br (decide ((↑a.Boxes.length : Int) ≤ 8)) (o_B (offer_Valid a.Boxes) fun b2 => some (e_B b2)) (some (e_B false))) (some (e_B false)))))))))))) (br (decide (a.Domain < 0)) (some (e_B false)) (br (decide (a.Domain > 65535)) (some (e_B false)) (br (decide (a.Latency < 0)) (some (e_B false)) (br (decide (a.Latency > 1048576)) (some (e_B false)) (br (decide (a.Drift < 0)) (some (e_B false)) (br (decide (a.Drift > 2048)) (some (e_B false)) (br (decide (a.Jitter < 0)) (some (e_B false)) (br (decide (a.Jitter > 4096)) (some (e_B false)) (br (decide ((↑a.Boxes.length : Int) ≥ 1)) (br (decide ((↑a.Boxes.length : Int) ≤ 8)) (o_B (offer_Valid a.Boxes) fun b3 => some (e_B b3)) (some (e_B false))) (some (e_B false)))))))))))) := (Cf_eq 96 _).trans (by kernel_rfl)
theorem device_unit_ports_eq (a : Y.Device_unit) : device_unit_ports a = some (e_I64 (↑a.Device.Choice.Format.Map.length : Int)) := (Cf_eq 102 _).trans (by kernel_rfl)
theorem slices_Clone_G_int_int_114_eq (a : List (List D)) : slices_Clone_G_int_int_114 a = br (decide (a.length = 0)) (both (some (e_L1 [])) (br (decide ((0 + a.length) * 24 ≤ 140737488355328)) (some (e_L1 ([] ++ a))) none)) (br (decide ((0 + a.length) * 24 ≤ 140737488355328)) (some (e_L1 ([] ++ a))) none) := (Cf_eq 114 _).trans (by kernel_rfl)
theorem sample_Valid_eq (a : Y.Block) : sample_Valid a = br (decide (a.Channels < 1)) (some (e_B false)) (br (decide (a.Channels > 8)) (some (e_B false)) (br (decide (a.Channels = 0)) none (br ((↑a.Data.length : Int).tmod a.Channels != 0) (some (e_B false)) (br (decide (a.Channels = 0)) none (br (decide (IntKind.i64.wrap ((↑a.Data.length : Int).tdiv a.Channels) > 65536)) (some (e_B false)) (sample_Valid_k232 a.Data (↑a.Data.length : Int) 0)))))) := (Cf_eq 120 _).trans (by kernel_rfl)
theorem sample_Valid_k232_eq (l0 : List (List D)) (n1 n2 : Int) : sample_Valid_k232 l0 n1 n2 = br (decide (n2 < n1)) (br (inB n2 l0.length) (gI IntKind.i32 (l0.getD n2.toNat []) fun n1_1 => o_B (sample_is n1_1) fun b2 => br (!b2) (some (e_B false)) (sample_Valid_k232 l0 n1 (IntKind.i64.wrap (n2 + 1)))) none) (some (e_B true)) := (Kf_eq 120 232 _).trans (by kernel_rfl)
theorem ratio_Valid_eq (a : Y.Ratio) : ratio_Valid a = br (decide (a.Num ≥ 1)) (br (decide (a.Den ≥ 1)) (br (decide (a.Num ≤ 68719476736)) (br (decide (a.Den ≤ 68719476736)) (o_I64 (ratio_divisor a.Num a.Den) fun n1 => some (e_B (n1 == 1))) (some (e_B false))) (some (e_B false))) (some (e_B false))) (some (e_B false)) := (Cf_eq 144 _).trans (by kernel_rfl)
theorem offer_kind_eq (a : Y.Box) (b : Int) : offer_kind a b = br (decide (b ≥ 1)) (br (decide (b ≤ 7)) (br (decide (b < 0)) none (some (e_B (IntKind.i64.wrap (↑(BitVec.ofInt 64 (a.Kinds.fdiv (2 ^ min b.toNat 64)) &&& BitVec.ofInt 64 1).toNat : Int) == 1)))) (some (e_B false))) (some (e_B false)) := (Cf_eq 157 _).trans (by kernel_rfl)
theorem control_Bound_eq (a : Y.Control) (b : Y.Ratio) (c d e : Int) : control_Bound a b c d e = o_B (control_Valid a) fun b1 => br (!b1) (some (e_I64_I64 0 1)) (o_B (control_declared b c d) fun b2 => br (!b2) (some (e_I64_I64 0 1)) (br (decide (e < 0)) (some (e_I64_I64 0 1)) (br (decide (e > 65536)) (some (e_I64_I64 0 1)) (br (decide (IntKind.i64.wrap (a.Most * IntKind.i64.wrap (65536 - c)) < IntKind.i64.wrap (65536 * c))) (some (e_I64_I64 0 11)) (o_I64 (control_up a.Most a.Gain) fun n3 => o_I64 (control_wobble b (IntKind.i64.wrap (c + a.Most))) fun n4 => some (e_I64_I64 (IntKind.i64.wrap (IntKind.i64.wrap (IntKind.i64.wrap ((bif true then if IntKind.i64.wrap (a.Dead + n3) > e then IntKind.i64.wrap (a.Dead + n3) else e else if IntKind.i64.wrap (a.Dead + n3) < e then IntKind.i64.wrap (a.Dead + n3) else e) + n4) + IntKind.i64.wrap (2 * d)) + 2)) 0)))))) := (Cf_eq 163 _).trans (by kernel_rfl)
theorem control_Adjust_eq (a : Y.Control) (b : Int) : control_Adjust a b = o_B (control_Valid a) fun b1 => br (!b1) (some (e_I64 0)) (br (decide (b < 0)) (some (e_I64 0)) (br (decide (b > 2147483647)) (some (e_I64 0)) (br (decide (b < a.Target)) (o_I64_Control (control_Adjust_1 (IntKind.i64.wrap (a.Target - b)) a) fun n2 x3 => some (e_I64 (IntKind.i64.wrap (0 - n2)))) (o_I64_Control (control_Adjust_1 (IntKind.i64.wrap (b - a.Target)) a) fun n4 x5 => some (e_I64 n4))))) := (Cf_eq 187 _).trans (by kernel_rfl)
theorem made_set_eq (a : Y.Made_Dice) (b : List (List D)) : made_set a b = made_set_k232 b b (↑b.length : Int) 0 a (Y.IntSet.mk []) [] := (Cf_eq 205 _).trans (by kernel_rfl)
theorem made_set_k232_eq (l0 l1 : List (List D)) (n2 n3 : Int) (x4 : Y.Made_Dice) (x5 : Y.IntSet) (r6 : List (List D)) : made_set_k232 l0 l1 n2 n3 x4 x5 r6 = br (decide (n3 < n2)) (br (inB n3 l1.length) (Y.Span.get (l1.getD n3.toNat []) fun x1 => o_I64_Made_Dice (made_Dice_Next x4 2) fun n2_1 x3 => br (n2_1 == 1) (br (decide ((r6.length + 1) * 16 ≤ 140737488355328)) (made_set_k232 l0 l1 n2 (IntKind.i64.wrap (n3 + 1)) x3 x5 (r6 ++ [x1.enc])) none) (made_set_k232 l0 l1 n2 (IntKind.i64.wrap (n3 + 1)) x3 x5 r6)) none) (br ((↑r6.length : Int) == 0) (o_I64_Made_Dice (made_Dice_Next x4 (↑l0.length : Int)) fun n4 x5_1 => br (inB n4 l0.length) (Y.Span.get (l0.getD n4.toNat []) fun x6 => br (decide ((r6.length + 1) * 16 ≤ 140737488355328)) (o_IntSet_I64 (ref09_Make (r6 ++ [x6.enc])) fun x7 n8 => some (e_IntSet_Made_Dice x7 x5_1)) none) none) (o_IntSet_I64 (ref09_Make r6) fun x9 n10 => some (e_IntSet_Made_Dice x9 x4))) := (Kf_eq 205 232 _).trans (by kernel_rfl)
theorem offer_Valid_1_eq (a : Y.Box) : offer_Valid_1 a = o_B (offer_fine a) fun b1 => some (e_B !b1) := (Cf_eq 211 _).trans (by kernel_rfl)
theorem control_possible_eq (a : Y.Ratio) : control_possible a = o_B (ratio_Valid a) fun b1 => br b1 (br (decide (a.Den ≤ 768000)) (br (decide (IntKind.i64.wrap (a.Num * 64) ≥ a.Den)) (some (e_B (decide (a.Num ≤ IntKind.i64.wrap (IntKind.i64.wrap (a.Den * 64) * 8192))))) (some (e_B false))) (some (e_B false))) (some (e_B false)) := (Cf_eq 220 _).trans (by kernel_rfl)
theorem ref14_Parts_eq (a : Y.Phase) : ref14_Parts a = some (e_I64 (IntKind.i64.wrap (a.Base.Den * 65536))) := (Cf_eq 228 _).trans (by kernel_rfl)
theorem resample_check_eq (a : Y.Resampler) (b : Int) : resample_check a b = o_B (resample_Valid a) fun b1 => br (!b1) (some (e_I64 1)) (br (decide (b < 0)) (some (e_I64 2)) (br (decide (b > 65536)) (some (e_I64 2)) (some (e_I64 0)))) := (Cf_eq 235 _).trans (by kernel_rfl)
theorem phase_parts_eq (a : Y.Phase) : phase_parts a = some (e_I64 (IntKind.i64.wrap (a.Base.Den * 65536))) := (Cf_eq 261 _).trans (by kernel_rfl)
theorem intset_fine_eq (a : Y.Span) : intset_fine a = br (decide (a.Lo ≥ 0)) (br (decide (a.Lo ≤ a.Hi)) (some (e_B (decide (a.Hi ≤ 2147483647)))) (some (e_B false))) (some (e_B false)) := (Cf_eq 273 _).trans (by kernel_rfl)
theorem sort_Search__phase_Make_1_eq (a : Int) (c : Y.Phase) (d : Int) : sort_Search__phase_Make_1 a c d = sort_Search__phase_Make_1_k224 0 a c d := (Cf_eq 100004 _).trans (by kernel_rfl)
theorem sort_Search__phase_Make_1_k224_eq (n0 n1 : Int) (x2 : Y.Phase) (n3 : Int) : sort_Search__phase_Make_1_k224 n0 n1 x2 n3 = br (decide (n0 < n1)) (o_B_Phase_I64 (phase_Make_1 (IntKind.i64.wrap ((IntKind.u64.wrap (IntKind.i64.wrap (n0 + n1))).fdiv (2 ^ 1))) x2 n3) fun b1 x2 n3 => br (!b1) (sort_Search__phase_Make_1_k224 (IntKind.i64.wrap (IntKind.i64.wrap ((IntKind.u64.wrap (IntKind.i64.wrap (n0 + n1))).fdiv (2 ^ 1)) + 1)) n1 x2 n3) (sort_Search__phase_Make_1_k224 n0 (IntKind.i64.wrap ((IntKind.u64.wrap (IntKind.i64.wrap (n0 + n1))).fdiv (2 ^ 1))) x2 n3)) (some (e_I64_Phase_I64 n0 x2 n3)) := (Kf_eq 100004 224 _).trans (by kernel_rfl)
theorem device_Start_eq (a : Y.Device) (b : Int) : device_Start a b = o_B (device_Valid a) fun b1 => br (!b1) (some (e_Device_I64 (Y.Device.mk (Y.Descriptor.mk 0 (ByteArray.mk #[]) 0 0 0 0 0 []) (Y.Choice.mk (Y.Format.mk 0 0 []) 0) 0 0 (Y.Clock.mk []) false 0 (Y.Bridge.mk 0 (Y.Control.mk 0 0 0 0) (Y.Resampler.mk 0 (Y.Phase.mk (Y.Ratio.mk 0 0) 0 0 0) []) 0 0)) 1)) (br (decide (b < 0)) (some (e_Device_I64 (Y.Device.mk (Y.Descriptor.mk 0 (ByteArray.mk #[]) 0 0 0 0 0 []) (Y.Choice.mk (Y.Format.mk 0 0 []) 0) 0 0 (Y.Clock.mk []) false 0 (Y.Bridge.mk 0 (Y.Control.mk 0 0 0 0) (Y.Resampler.mk 0 (Y.Phase.mk (Y.Ratio.mk 0 0) 0 0 0) []) 0 0)) 2)) (br (decide (b > 1099511627776)) (some (e_Device_I64 (Y.Device.mk (Y.Descriptor.mk 0 (ByteArray.mk #[]) 0 0 0 0 0 []) (Y.Choice.mk (Y.Format.mk 0 0 []) 0) 0 0 (Y.Clock.mk []) false 0 (Y.Bridge.mk 0 (Y.Control.mk 0 0 0 0) (Y.Resampler.mk 0 (Y.Phase.mk (Y.Ratio.mk 0 0) 0 0 0) []) 0 0)) 2)) (br (decide (a.Period = 0)) none (br (b.tmod a.Period != 0) (some (e_Device_I64 (Y.Device.mk (Y.Descriptor.mk 0 (ByteArray.mk #[]) 0 0 0 0 0 []) (Y.Choice.mk (Y.Format.mk 0 0 []) 0) 0 0 (Y.Clock.mk []) false 0 (Y.Bridge.mk 0 (Y.Control.mk 0 0 0 0) (Y.Resampler.mk 0 (Y.Phase.mk (Y.Ratio.mk 0 0) 0 0 0) []) 0 0)) 11)) (br a.Running (some (e_Device_I64 (Y.Device.mk (Y.Descriptor.mk 0 (ByteArray.mk #[]) 0 0 0 0 0 []) (Y.Choice.mk (Y.Format.mk 0 0 []) 0) 0 0 (Y.Clock.mk []) false 0 (Y.Bridge.mk 0 (Y.Control.mk 0 0 0 0) (Y.Resampler.mk 0 (Y.Phase.mk (Y.Ratio.mk 0 0) 0 0 0) []) 0 0)) 9)) (o_Device (device_own a) fun x2 => some (e_Device_I64 (Y.Device.mk x2.Descriptor x2.Choice x2.Rate x2.Period x2.Clock true b x2.Bridge) 0))))))) := (Cf_eq 13 _).trans (by kernel_rfl)
theorem ref04_Join_eq (a b : Y.Block) : ref04_Join a b = br (decide (a.Data.length * 4 ≤ 140737488355328)) (br (decide ((a.Data.length + b.Data.length) * 4 ≤ 140737488355328)) (some (e_Block (Y.Block.mk a.Channels (a.Data ++ b.Data)))) none) none := (Cf_eq 19 _).trans (by kernel_rfl)
theorem device_Valid_eq (a : Y.Device) : device_Valid a = o_B (device_unit_valid (Y.Device_unit.mk a)) fun b1 => some (e_B b1) := (Cf_eq 25 _).trans (by kernel_rfl)
theorem ref04_Same_eq (a b : Y.Block) : ref04_Same a b = br (a.Channels == b.Channels) (o_B (ref04_SameData a.Data b.Data) fun b1 => some (e_B b1)) (some (e_B false)) := (Cf_eq 31 _).trans (by kernel_rfl)
theorem ref15_Waiting_eq (a : Y.Resampler) : ref15_Waiting a = o_B (ref15_Valid a) fun b1 => br (!b1) (some (e_I64 0)) (br (decide (a.Channels = 0)) none (some (e_I64 (IntKind.i64.wrap ((↑a.Rest.length : Int).tdiv a.Channels))))) := (Cf_eq 55 _).trans (by kernel_rfl)
theorem sample_Silence_eq (a b : Int) : sample_Silence a b = br (decide (a < 1)) (some (e_Block_I64 (Y.Block.mk 0 []) 2)) (br (decide (a > 8)) (some (e_Block_I64 (Y.Block.mk 0 []) 2)) (br (decide (b < 0)) (some (e_Block_I64 (Y.Block.mk 0 []) 2)) (br (decide (b > 65536)) (some (e_Block_I64 (Y.Block.mk 0 []) 2)) (br (decide (0 ≤ IntKind.i64.wrap (a * b) ∧ IntKind.i64.wrap (a * b) ≤ IntKind.i64.wrap (a * b) ∧ (IntKind.i64.wrap (a * b)).toNat * 4 ≤ 140737488355328)) (some (e_Block_I64 (Y.Block.mk a (List.replicate (IntKind.i64.wrap (a * b)).toNat [D.int IntKind.i32 0])) 0)) none)))) := (Cf_eq 73 _).trans (by kernel_rfl)
theorem device_unit_playback_eq (a : Y.Device_unit) : device_unit_playback a = some (e_B (a.Device.Descriptor.Direction == 1)) := (Cf_eq 85 _).trans (by kernel_rfl)
theorem clock_Valid_eq (a : Y.Clock) : clock_Valid a = clock_Valid_k104 a.Segments (↑a.Segments.length : Int) 0 a := (Cf_eq 97 _).trans (by kernel_rfl)
theorem clock_Valid_k104_eq (l0 : List (List D)) (n1 n2 : Int) (x3 : Y.Clock) : clock_Valid_k104 l0 n1 n2 x3 = br (decide (n2 < n1)) (br (inB n2 l0.length) (Y.Segment.get (l0.getD n2.toNat []) fun x1 => o_B (clock_usual x1.Rate) fun b2 => br (!b2) (some (e_B false)) (br (decide (x1.From > 1099511627776)) (some (e_B false)) (br (n2 == 0) (br (x1.From != 0) (some (e_B false)) (br (decide (n2 > 0)) (br (inB (IntKind.i64.wrap (n2 - 1)) x3.Segments.length) (Y.Segment.get (x3.Segments.getD (IntKind.i64.wrap (n2 - 1)).toNat []) fun x3_1 => br (decide (x1.From ≤ x3_1.From)) (some (e_B false)) (clock_Valid_k104 l0 n1 (IntKind.i64.wrap (n2 + 1)) x3)) none) (clock_Valid_k104 l0 n1 (IntKind.i64.wrap (n2 + 1)) x3))) (br (decide (n2 > 0)) (br (inB (IntKind.i64.wrap (n2 - 1)) x3.Segments.length) (Y.Segment.get (x3.Segments.getD (IntKind.i64.wrap (n2 - 1)).toNat []) fun x4 => br (decide (x1.From ≤ x4.From)) (some (e_B false)) (clock_Valid_k104 l0 n1 (IntKind.i64.wrap (n2 + 1)) x3)) none) (clock_Valid_k104 l0 n1 (IntKind.i64.wrap (n2 + 1)) x3))))) none) (br (decide ((↑x3.Segments.length : Int) ≥ 1)) (some (e_B (decide ((↑x3.Segments.length : Int) ≤ 64)))) (some (e_B false))) := (Kf_eq 97 104 _).trans (by kernel_rfl)
theorem device_unit_base_eq (a : Y.Device_unit) : device_unit_base a = o_B (device_unit_playback a) fun b1 => br (!b1) (o_Ratio (device_unit_nominal a) fun x2 => some (e_Ratio x2)) (o_Ratio (device_unit_nominal a) fun x3 => o_Ratio_I64 (ratio_Inverse x3) fun x4 n5 => some (e_Ratio x4)) := (Cf_eq 103 _).trans (by kernel_rfl)
theorem slices_Clone_G_int_int_115_eq (a : List (List D)) : slices_Clone_G_int_int_115 a = br (decide (a.length = 0)) (both (some (e_L1 [])) (br (decide ((0 + a.length) * 8 ≤ 140737488355328)) (some (e_L1 ([] ++ a))) none)) (br (decide ((0 + a.length) * 8 ≤ 140737488355328)) (some (e_L1 ([] ++ a))) none) := (Cf_eq 115 _).trans (by kernel_rfl)
theorem bridge_Push_eq (a : Y.Bridge) (b : Y.Block) : bridge_Push a b = o_B (bridge_Valid a) fun b1 => br (!b1) (some (e_Bridge_I64_I64 (Y.Bridge.mk 0 (Y.Control.mk 0 0 0 0) (Y.Resampler.mk 0 (Y.Phase.mk (Y.Ratio.mk 0 0) 0 0 0) []) 0 0) 0 1)) (o_B (sample_Valid b) fun b2 => br (!b2) (some (e_Bridge_I64_I64 (Y.Bridge.mk 0 (Y.Control.mk 0 0 0 0) (Y.Resampler.mk 0 (Y.Phase.mk (Y.Ratio.mk 0 0) 0 0 0) []) 0 0) 0 1)) (br (b.Channels != a.Resample.Channels) (some (e_Bridge_I64_I64 (Y.Bridge.mk 0 (Y.Control.mk 0 0 0 0) (Y.Resampler.mk 0 (Y.Phase.mk (Y.Ratio.mk 0 0) 0 0 0) []) 0 0) 0 11)) (br (decide (b.Channels = 0)) none (o_I64 (resample_Waiting a.Resample) fun n3 => br (decide (0 ≤ IntKind.i64.wrap ((bif false then if IntKind.i64.wrap (a.Capacity - n3) > IntKind.i64.wrap ((↑b.Data.length : Int).tdiv b.Channels) then IntKind.i64.wrap (a.Capacity - n3) else IntKind.i64.wrap ((↑b.Data.length : Int).tdiv b.Channels) else if IntKind.i64.wrap (a.Capacity - n3) < IntKind.i64.wrap ((↑b.Data.length : Int).tdiv b.Channels) then IntKind.i64.wrap (a.Capacity - n3) else IntKind.i64.wrap ((↑b.Data.length : Int).tdiv b.Channels)) * b.Channels) ∧ IntKind.i64.wrap ((bif false then if IntKind.i64.wrap (a.Capacity - n3) > IntKind.i64.wrap ((↑b.Data.length : Int).tdiv b.Channels) then IntKind.i64.wrap (a.Capacity - n3) else IntKind.i64.wrap ((↑b.Data.length : Int).tdiv b.Channels) else if IntKind.i64.wrap (a.Capacity - n3) < IntKind.i64.wrap ((↑b.Data.length : Int).tdiv b.Channels) then IntKind.i64.wrap (a.Capacity - n3) else IntKind.i64.wrap ((↑b.Data.length : Int).tdiv b.Channels)) * b.Channels) ≤ (↑b.Data.length : Int))) (br (decide (0 ≤ IntKind.i64.wrap ((bif false then if IntKind.i64.wrap (a.Capacity - n3) > IntKind.i64.wrap ((↑b.Data.length : Int).tdiv b.Channels) then IntKind.i64.wrap (a.Capacity - n3) else IntKind.i64.wrap ((↑b.Data.length : Int).tdiv b.Channels) else if IntKind.i64.wrap (a.Capacity - n3) < IntKind.i64.wrap ((↑b.Data.length : Int).tdiv b.Channels) then IntKind.i64.wrap (a.Capacity - n3) else IntKind.i64.wrap ((↑b.Data.length : Int).tdiv b.Channels)) * b.Channels) ∧ IntKind.i64.wrap ((bif false then if IntKind.i64.wrap (a.Capacity - n3) > IntKind.i64.wrap ((↑b.Data.length : Int).tdiv b.Channels) then IntKind.i64.wrap (a.Capacity - n3) else IntKind.i64.wrap ((↑b.Data.length : Int).tdiv b.Channels) else if IntKind.i64.wrap (a.Capacity - n3) < IntKind.i64.wrap ((↑b.Data.length : Int).tdiv b.Channels) then IntKind.i64.wrap (a.Capacity - n3) else IntKind.i64.wrap ((↑b.Data.length : Int).tdiv b.Channels)) * b.Channels) ≤ (↑(IntKind.i64.wrap ((bif false then if IntKind.i64.wrap (a.Capacity - n3) > IntKind.i64.wrap ((↑b.Data.length : Int).tdiv b.Channels) then IntKind.i64.wrap (a.Capacity - n3) else IntKind.i64.wrap ((↑b.Data.length : Int).tdiv b.Channels) else if IntKind.i64.wrap (a.Capacity - n3) < IntKind.i64.wrap ((↑b.Data.length : Int).tdiv b.Channels) then IntKind.i64.wrap (a.Capacity - n3) else IntKind.i64.wrap ((↑b.Data.length : Int).tdiv b.Channels)) * b.Channels)).toNat : Int))) (o_Resampler_I64 (resample_Feed a.Resample (Y.Block.mk b.Channels (List.drop 0 (List.take (IntKind.i64.wrap ((bif false then if IntKind.i64.wrap (a.Capacity - n3) > IntKind.i64.wrap ((↑b.Data.length : Int).tdiv b.Channels) then IntKind.i64.wrap (a.Capacity - n3) else IntKind.i64.wrap ((↑b.Data.length : Int).tdiv b.Channels) else if IntKind.i64.wrap (a.Capacity - n3) < IntKind.i64.wrap ((↑b.Data.length : Int).tdiv b.Channels) then IntKind.i64.wrap (a.Capacity - n3) else IntKind.i64.wrap ((↑b.Data.length : Int).tdiv b.Channels)) * b.Channels)).toNat b.Data)))) fun x4 n5 => some (e_Bridge_I64_I64 (Y.Bridge.mk a.Capacity a.Control x4 (IntKind.i64.wrap (a.Lost + IntKind.i64.wrap (IntKind.i64.wrap ((↑b.Data.length : Int).tdiv b.Channels) - bif false then if IntKind.i64.wrap (a.Capacity - n3) > IntKind.i64.wrap ((↑b.Data.length : Int).tdiv b.Channels) then IntKind.i64.wrap (a.Capacity - n3) else IntKind.i64.wrap ((↑b.Data.length : Int).tdiv b.Channels) else if IntKind.i64.wrap (a.Capacity - n3) < IntKind.i64.wrap ((↑b.Data.length : Int).tdiv b.Channels) then IntKind.i64.wrap (a.Capacity - n3) else IntKind.i64.wrap ((↑b.Data.length : Int).tdiv b.Channels)))) a.Missed) (IntKind.i64.wrap (IntKind.i64.wrap ((↑b.Data.length : Int).tdiv b.Channels) - bif false then if IntKind.i64.wrap (a.Capacity - n3) > IntKind.i64.wrap ((↑b.Data.length : Int).tdiv b.Channels) then IntKind.i64.wrap (a.Capacity - n3) else IntKind.i64.wrap ((↑b.Data.length : Int).tdiv b.Channels) else if IntKind.i64.wrap (a.Capacity - n3) < IntKind.i64.wrap ((↑b.Data.length : Int).tdiv b.Channels) then IntKind.i64.wrap (a.Capacity - n3) else IntKind.i64.wrap ((↑b.Data.length : Int).tdiv b.Channels))) 0)) none) none)))) := (Cf_eq 121 _).trans (by kernel_rfl)
theorem bits_Mul64_eq (a b : Int) : bits_Mul64 a b = some (e_U64_U64 (IntKind.u64.wrap (IntKind.u64.wrap (IntKind.u64.wrap (a.fdiv (2 ^ 32) * b.fdiv (2 ^ 32)) + (IntKind.u64.wrap (IntKind.u64.wrap (a.fdiv (2 ^ 32) * IntKind.u64.wrap (↑(BitVec.ofInt 64 b &&& BitVec.ofInt 64 4294967295).toNat : Int)) + (IntKind.u64.wrap (IntKind.u64.wrap (↑(BitVec.ofInt 64 a &&& BitVec.ofInt 64 4294967295).toNat : Int) * IntKind.u64.wrap (↑(BitVec.ofInt 64 b &&& BitVec.ofInt 64 4294967295).toNat : Int))).fdiv (2 ^ 32))).fdiv (2 ^ 32)) + (IntKind.u64.wrap (IntKind.u64.wrap (↑(BitVec.ofInt 64 (IntKind.u64.wrap (IntKind.u64.wrap (a.fdiv (2 ^ 32) * IntKind.u64.wrap (↑(BitVec.ofInt 64 b &&& BitVec.ofInt 64 4294967295).toNat : Int)) + (IntKind.u64.wrap (IntKind.u64.wrap (↑(BitVec.ofInt 64 a &&& BitVec.ofInt 64 4294967295).toNat : Int) * IntKind.u64.wrap (↑(BitVec.ofInt 64 b &&& BitVec.ofInt 64 4294967295).toNat : Int))).fdiv (2 ^ 32))) &&& BitVec.ofInt 64 4294967295).toNat : Int) + IntKind.u64.wrap (IntKind.u64.wrap (↑(BitVec.ofInt 64 a &&& BitVec.ofInt 64 4294967295).toNat : Int) * b.fdiv (2 ^ 32)))).fdiv (2 ^ 32))) (IntKind.u64.wrap (a * b))) := (Cf_eq 139 _).trans (by kernel_rfl)
theorem ratio_check_eq (a : Int) (b : Y.Ratio) : ratio_check a b = o_B (ratio_Valid b) fun b1 => br (!b1) (some (e_I64 1)) (br (decide (a < -1125899906842624)) (some (e_I64 2)) (br (decide (a > 1125899906842624)) (some (e_I64 2)) (some (e_I64 0)))) := (Cf_eq 145 _).trans (by kernel_rfl)
theorem words_Name_eq (a : ByteArray) : words_Name a = words_Name_k104 a (↑a.size : Int) 0 := (Cf_eq 151 _).trans (by kernel_rfl)
theorem words_Name_k104_eq (s0 : ByteArray) (n1 n2 : Int) : words_Name_k104 s0 n1 n2 = br (decide (n2 < n1)) (br (inB n2 s0.size) (br (decide (IntKind.u8.wrap (↑(BitVec.ofInt 8 (↑(s0.data.toList.getD n2.toNat 0).toNat : Int) ||| BitVec.ofInt 8 32).toNat : Int) ≥ 97)) (br (inB n2 s0.size) (br (decide ((↑(s0.data.toList.getD n2.toNat 0).toNat : Int) ≥ 48)) (br (inB n2 s0.size) (br (decide ((↑(s0.data.toList.getD n2.toNat 0).toNat : Int) ≤ 57)) (br (!decide (IntKind.u8.wrap (↑(BitVec.ofInt 8 (↑(s0.data.toList.getD n2.toNat 0).toNat : Int) ||| BitVec.ofInt 8 32).toNat : Int) ≤ 122)) (br (n2 == 0) (some (e_B false)) (words_Name_k104 s0 n1 (IntKind.i64.wrap (n2 + 1)))) (words_Name_k104 s0 n1 (IntKind.i64.wrap (n2 + 1)))) (br (inB n2 s0.size) (br ((↑(s0.data.toList.getD n2.toNat 0).toNat : Int) == 45) (br (!decide (IntKind.u8.wrap (↑(BitVec.ofInt 8 (↑(s0.data.toList.getD n2.toNat 0).toNat : Int) ||| BitVec.ofInt 8 32).toNat : Int) ≤ 122)) (br (n2 == 0) (some (e_B false)) (words_Name_k104 s0 n1 (IntKind.i64.wrap (n2 + 1)))) (words_Name_k104 s0 n1 (IntKind.i64.wrap (n2 + 1)))) (br (inB n2 s0.size) (br ((↑(s0.data.toList.getD n2.toNat 0).toNat : Int) == 46) (br (!decide (IntKind.u8.wrap (↑(BitVec.ofInt 8 (↑(s0.data.toList.getD n2.toNat 0).toNat : Int) ||| BitVec.ofInt 8 32).toNat : Int) ≤ 122)) (br (n2 == 0) (some (e_B false)) (words_Name_k104 s0 n1 (IntKind.i64.wrap (n2 + 1)))) (words_Name_k104 s0 n1 (IntKind.i64.wrap (n2 + 1)))) (br (inB n2 s0.size) (br (!decide (IntKind.u8.wrap (↑(BitVec.ofInt 8 (↑(s0.data.toList.getD n2.toNat 0).toNat : Int) ||| BitVec.ofInt 8 32).toNat : Int) ≤ 122)) (br (n2 == 0) (some (e_B false)) (br (!(↑(s0.data.toList.getD n2.toNat 0).toNat : Int) == 95) (some (e_B false)) (words_Name_k104 s0 n1 (IntKind.i64.wrap (n2 + 1))))) (words_Name_k104 s0 n1 (IntKind.i64.wrap (n2 + 1)))) none)) none)) none)) none) (br (inB n2 s0.size) (br ((↑(s0.data.toList.getD n2.toNat 0).toNat : Int) == 45) (br (!decide (IntKind.u8.wrap (↑(BitVec.ofInt 8 (↑(s0.data.toList.getD n2.toNat 0).toNat : Int) ||| BitVec.ofInt 8 32).toNat : Int) ≤ 122)) (br (n2 == 0) (some (e_B false)) (words_Name_k104 s0 n1 (IntKind.i64.wrap (n2 + 1)))) (words_Name_k104 s0 n1 (IntKind.i64.wrap (n2 + 1)))) (br (inB n2 s0.size) (br ((↑(s0.data.toList.getD n2.toNat 0).toNat : Int) == 46) (br (!decide (IntKind.u8.wrap (↑(BitVec.ofInt 8 (↑(s0.data.toList.getD n2.toNat 0).toNat : Int) ||| BitVec.ofInt 8 32).toNat : Int) ≤ 122)) (br (n2 == 0) (some (e_B false)) (words_Name_k104 s0 n1 (IntKind.i64.wrap (n2 + 1)))) (words_Name_k104 s0 n1 (IntKind.i64.wrap (n2 + 1)))) (br (inB n2 s0.size) (br (!decide (IntKind.u8.wrap (↑(BitVec.ofInt 8 (↑(s0.data.toList.getD n2.toNat 0).toNat : Int) ||| BitVec.ofInt 8 32).toNat : Int) ≤ 122)) (br (n2 == 0) (some (e_B false)) (br (!(↑(s0.data.toList.getD n2.toNat 0).toNat : Int) == 95) (some (e_B false)) (words_Name_k104 s0 n1 (IntKind.i64.wrap (n2 + 1))))) (words_Name_k104 s0 n1 (IntKind.i64.wrap (n2 + 1)))) none)) none)) none)) none) (br (inB n2 s0.size) (br (decide ((↑(s0.data.toList.getD n2.toNat 0).toNat : Int) ≥ 48)) (br (inB n2 s0.size) (br (decide ((↑(s0.data.toList.getD n2.toNat 0).toNat : Int) ≤ 57)) (br (n2 == 0) (some (e_B false)) (words_Name_k104 s0 n1 (IntKind.i64.wrap (n2 + 1)))) (br (inB n2 s0.size) (br ((↑(s0.data.toList.getD n2.toNat 0).toNat : Int) == 45) (br (n2 == 0) (some (e_B false)) (words_Name_k104 s0 n1 (IntKind.i64.wrap (n2 + 1)))) (br (inB n2 s0.size) (br ((↑(s0.data.toList.getD n2.toNat 0).toNat : Int) == 46) (br (n2 == 0) (some (e_B false)) (words_Name_k104 s0 n1 (IntKind.i64.wrap (n2 + 1)))) (br (inB n2 s0.size) (br (n2 == 0) (some (e_B false)) (br (!(↑(s0.data.toList.getD n2.toNat 0).toNat : Int) == 95) (some (e_B false)) (words_Name_k104 s0 n1 (IntKind.i64.wrap (n2 + 1))))) none)) none)) none)) none) (br (inB n2 s0.size) (br ((↑(s0.data.toList.getD n2.toNat 0).toNat : Int) == 45) (br (n2 == 0) (some (e_B false)) (words_Name_k104 s0 n1 (IntKind.i64.wrap (n2 + 1)))) (br (inB n2 s0.size) (br ((↑(s0.data.toList.getD n2.toNat 0).toNat : Int) == 46) (br (n2 == 0) (some (e_B false)) (words_Name_k104 s0 n1 (IntKind.i64.wrap (n2 + 1)))) (br (inB n2 s0.size) (br (n2 == 0) (some (e_B false)) (br (!(↑(s0.data.toList.getD n2.toNat 0).toNat : Int) == 95) (some (e_B false)) (words_Name_k104 s0 n1 (IntKind.i64.wrap (n2 + 1))))) none)) none)) none)) none)) none) (br (!s0.toList == []) (some (e_B (decide ((↑s0.size : Int) ≤ 64)))) (some (e_B false))) := (Kf_eq 151 104 _).trans (by kernel_rfl)
theorem intset_Has_eq (a : Y.IntSet) (b : Int) : intset_Has a b = o_L2 (intset_spans a) fun l1 => o_B_I64 (slices_ContainsFunc_G__intset_Has_1 l1 b) fun b2 n3 => some (e_B b2) := (Cf_eq 158 _).trans (by kernel_rfl)
theorem control_Demand_eq (a : Y.Control) (b : Y.Ratio) (c d : Int) : control_Demand a b c d = o_I64_I64 (control_Bound a b c d 0) fun n1 n2 => br (n2 != 0) (some (e_I64_I64 0 n2)) (o_I64 (control_up b.Num b.Den) fun n3 => o_I64 (control_wobble b (IntKind.i64.wrap (c + a.Most))) fun n4 => some (e_I64_I64 (IntKind.i64.wrap (IntKind.i64.wrap (IntKind.i64.wrap (n3 + n4) + IntKind.i64.wrap (2 * d)) + 3)) 0)) := (Cf_eq 164 _).trans (by kernel_rfl)
theorem ref14_Valid_eq (a : Y.Phase) : ref14_Valid a = o_B (ref03_Valid a.Base) fun b1 => br b1 (br (decide (a.Base.Num ≤ 768000)) (br (decide (a.Base.Den ≤ 768000)) (br (decide (a.Adjust ≥ -4096)) (br (decide (a.Adjust ≤ 4096)) (br (decide (a.Pos ≥ 0)) (br (decide (a.Pos ≤ 1125899906842624)) (br (decide (a.Frac ≥ 0)) (o_I64 (ref14_Parts a) fun n2 => some (e_B (decide (a.Frac < n2)))) (some (e_B false))) (some (e_B false))) (some (e_B false))) (some (e_B false))) (some (e_B false))) (some (e_B false))) (some (e_B false))) (some (e_B false)) := (Cf_eq 182 _).trans (by kernel_rfl)
theorem phase_Make_eq (a : Y.Phase) (b : Int) : phase_Make a b = o_B (phase_Valid a) fun b1 => br (!b1) (some (e_I64_I64 0 1)) (br (decide (b < 0)) (some (e_I64_I64 0 2)) (br (decide (b > 1099511627776)) (some (e_I64_I64 0 2)) (o_I64_Phase_I64 (sort_Search__phase_Make_1 65536 a b) fun n2 x3 n4 => some (e_I64_I64 n2 0)))) := (Cf_eq 188 _).trans (by kernel_rfl)
theorem ratio_divisor_eq (a b : Int) : ratio_divisor a b = ratio_divisor_k96 a b := (Cf_eq 206 _).trans (by kernel_rfl)
theorem ratio_divisor_k96_eq (n0 n1 : Int) : ratio_divisor_k96 n0 n1 = br (n1 != 0) (br (decide (n1 = 0)) none (ratio_divisor_k96 n1 (n0.tmod n1))) (some (e_I64 n0)) := (Kf_eq 206 96 _).trans (by kernel_rfl)
theorem offer_fine_eq (a : Y.Box) : offer_fine a = br (a.Kinds == 0) (some (e_B false)) (br (IntKind.i64.wrap (↑(BitVec.ofInt 64 a.Kinds &&& ~~~BitVec.ofInt 64 254).toNat : Int) != 0) (some (e_B false)) (o_B (offer_within a.Rates 1000 768000) fun b1 => br (!b1) (some (e_B false)) (o_B (offer_within a.Sizes 1 65536) fun b2 => br (!b2) (some (e_B false)) (offer_fine_k232 a.Maps (↑a.Maps.length : Int) 0 a)))) := (Cf_eq 212 _).trans (by kernel_rfl)
theorem offer_fine_k232_eq (l0 : List (List D)) (n1 n2 : Int) (x3 : Y.Box) : offer_fine_k232 l0 n1 n2 x3 = br (decide (n2 < n1)) (br (inB n2 l0.length) (gL 1 (l0.getD n2.toNat []) fun l3 => o_B (channels_Valid l3) fun b4 => br (!b4) (some (e_B false)) (br (decide (0 ≤ n2 ∧ n2 ≤ (↑x3.Maps.length : Int))) (o_B (offer_has (List.drop 0 (List.take n2.toNat x3.Maps)) l3) fun b5 => br b5 (some (e_B false)) (offer_fine_k232 l0 n1 (IntKind.i64.wrap (n2 + 1)) x3)) none)) none) (br (decide ((↑x3.Maps.length : Int) ≥ 1)) (some (e_B (decide ((↑x3.Maps.length : Int) ≤ 16)))) (some (e_B false))) := (Kf_eq 212 232 _).trans (by kernel_rfl)
theorem phase_New_eq (a : Y.Ratio) : phase_New a = o_B (phase_Valid (Y.Phase.mk a 0 0 0)) fun b1 => br (!b1) (some (e_Phase_I64 (Y.Phase.mk (Y.Ratio.mk 0 0) 0 0 0) 1)) (some (e_Phase_I64 (Y.Phase.mk a 0 0 0) 0)) := (Cf_eq 221 _).trans (by kernel_rfl)
theorem phase_Valid_eq (a : Y.Phase) : phase_Valid a = o_B (ratio_Valid a.Base) fun b1 => br b1 (br (decide (a.Base.Num ≤ 768000)) (br (decide (a.Base.Den ≤ 768000)) (o_B (phase_tuned a.Adjust) fun b2 => br b2 (br (decide (a.Pos ≥ 0)) (br (decide (a.Pos ≤ 1125899906842624)) (br (decide (a.Frac ≥ 0)) (o_I64 (phase_parts a) fun n3 => some (e_B (decide (a.Frac < n3)))) (some (e_B false))) (some (e_B false))) (some (e_B false))) (some (e_B false))) (some (e_B false))) (some (e_B false))) (some (e_B false)) := (Cf_eq 229 _).trans (by kernel_rfl)
theorem phase_Need_eq (a : Y.Phase) (b : Int) : phase_Need a b = o_I64 (phase_check a b) fun n1 => br (n1 != 0) (some (e_I64_I64 0 n1)) (o_I64 (phase_need a b) fun n2 => some (e_I64_I64 n2 0)) := (Cf_eq 236 _).trans (by kernel_rfl)
theorem offer_within_eq (a : Y.IntSet) (b c : Int) : offer_within a b c = br (decide ((↑a.Spans.length : Int) > 0)) (o_B (intset_Valid a) fun b1 => br b1 (br (inB 0 a.Spans.length) (Y.Span.get (a.Spans.getD 0 []) fun x2 => br (decide (x2.Lo ≥ b)) (br (inB (IntKind.i64.wrap ((↑a.Spans.length : Int) - 1)) a.Spans.length) (Y.Span.get (a.Spans.getD (IntKind.i64.wrap ((↑a.Spans.length : Int) - 1)).toNat []) fun x3 => some (e_B (decide (x3.Hi ≤ c)))) none) (some (e_B false))) none) (some (e_B false))) (some (e_B false)) := (Cf_eq 254 _).trans (by kernel_rfl)
theorem phase_ahead_eq (a : Y.Phase) (b : Int) : phase_ahead a b = some (e_I64 (IntKind.i64.wrap (a.Frac + IntKind.i64.wrap (IntKind.i64.wrap (b * a.Base.Num) * IntKind.i64.wrap (65536 + a.Adjust))))) := (Cf_eq 262 _).trans (by kernel_rfl)
theorem slices_Index_G_int_int_eq (a : List (List D)) (b : Int) : slices_Index_G_int_int a b = slices_Index_G_int_int_k104 a b (↑a.length : Int) 0 := (Cf_eq 274 _).trans (by kernel_rfl)
theorem slices_Index_G_int_int_k104_eq (l0 : List (List D)) (n1 n2 n3 : Int) : slices_Index_G_int_int_k104 l0 n1 n2 n3 = br (decide (n3 < n2)) (br (inB n3 l0.length) (gI IntKind.i64 (l0.getD n3.toNat []) fun n1_1 => br (n1 == n1_1) (some (e_I64 n3)) (slices_Index_G_int_int_k104 l0 n1 n2 (IntKind.i64.wrap (n3 + 1)))) none) (some (e_I64 (-1))) := (Kf_eq 274 104 _).trans (by kernel_rfl)
theorem slices_Concat_G_int32_int32_eq (a : List (List D)) : slices_Concat_G_int32_int32 a = slices_Concat_G_int32_int32_k232 a 0 a (↑a.length : Int) 0 := (Cf_eq 222 _).trans (by kernel_rfl)
theorem slices_Concat_G_int32_int32_k232_eq (l0 : List (List D)) (n1 : Int) (l2 : List (List D)) (n3 n4 : Int) : slices_Concat_G_int32_int32_k232 l0 n1 l2 n3 n4 = br (decide (n4 < n3)) (br (inB n4 l2.length) (gL 1 (l2.getD n4.toNat []) fun l1 => br (decide (IntKind.i64.wrap (n1 + (↑l1.length : Int)) < 0)) none (slices_Concat_G_int32_int32_k232 l0 (IntKind.i64.wrap (n1 + (↑l1.length : Int))) l2 n3 (IntKind.i64.wrap (n4 + 1)))) none) (o_L1 (slices_Grow_G__nil n1) fun l2 => slices_Concat_G_int32_int32_k1000 l0 (↑l0.length : Int) 0 l2) := (Kf_eq 222 232 _).trans (by kernel_rfl)
theorem slices_Concat_G_int32_int32_k1000_eq (l0 : List (List D)) (n1 n2 : Int) (r3 : List (List D)) : slices_Concat_G_int32_int32_k1000 l0 n1 n2 r3 = br (decide (n2 < n1)) (br (inB n2 l0.length) (gL 1 (l0.getD n2.toNat []) fun l3 => br (decide ((r3.length + l3.length) * 4 ≤ 140737488355328)) (slices_Concat_G_int32_int32_k1000 l0 n1 (IntKind.i64.wrap (n2 + 1)) (r3 ++ l3)) none) none) (some (e_L1 r3)) := (Kf_eq 222 1000 _).trans (by kernel_rfl)
theorem slices_Grow_G__nil_eq (b : Int) : slices_Grow_G__nil b = br (decide (b < 0)) none (br (decide (IntKind.i64.wrap (b - IntKind.i64.wrap (0 - 0)) > 0)) (br (decide (0 ≤ IntKind.i64.wrap (b - IntKind.i64.wrap (0 - 0)) ∧ (IntKind.i64.wrap (b - IntKind.i64.wrap (0 - 0))).toNat * 4 ≤ 140737488355328)) (some (e_L1 [])) none) (some (e_L1 []))) := (Cf_eq 100005 _).trans (by kernel_rfl)
end Go.Vm

set_option linter.unusedVariables false
set_option linter.unusedSimpArgs false
namespace Go.Vm
open Go.Proofs
theorem br_ite {α : Type} (b : Bool) (x y : Option α) : br b x y = if b = true then x else y := by cases b <;> rfl
theorem br_t {α : Type} (x y : Option α) : br true x y = x := rfl
theorem br_f {α : Type} (x y : Option α) : br false x y = y := rfl
theorem br_p {α : Type} {p : Prop} [Decidable p] (h : p) (x y : Option α) : br (decide p) x y = x := by rw [decide_eq_true h]; rfl
theorem br_n {α : Type} {p : Prop} [Decidable p] (h : ¬ p) (x y : Option α) : br (decide p) x y = y := by rw [decide_eq_false h]; rfl
theorem br_eq {α : Type} {a b : Int} (h : a = b) (x y : Option α) : br (a == b) x y = x := by rw [h, beq_self_eq_true]; rfl
theorem br_ne {α : Type} {a b : Int} (h : ¬ a = b) (x y : Option α) : br (a == b) x y = y := by rw [beq_eq_false_iff_ne.2 h]; rfl
theorem br_eq' {α : Type} {a b : Int} (h : a = b) (x y : Option α) : br (a != b) x y = y := by rw [h, bne_self_eq_false]; rfl
theorem br_ne' {α : Type} {a b : Int} (h : ¬ a = b) (x y : Option α) : br (a != b) x y = x := by rw [bne, beq_eq_false_iff_ne.2 h]; rfl
theorem w64 {n : Int} (h0 : -9223372036854775808 ≤ n) (h1 : n ≤ 9223372036854775807) : IntKind.i64.wrap n = n := IntWalk.i64_in n ⟨h0, h1⟩
theorem wu64 {n : Int} (h0 : 0 ≤ n) (h1 : n ≤ 18446744073709551615) : IntKind.u64.wrap n = n := IntWalk.u64_in n ⟨h0, h1⟩
theorem w32 {n : Int} (h0 : -2147483648 ≤ n) (h1 : n ≤ 2147483647) : IntKind.i32.wrap n = n := IntWalk.i32_in n ⟨h0, h1⟩
theorem wu64_mod (n : Int) : IntKind.u64.wrap n = n % 18446744073709551616 := IntKind.wrap_u64 n
theorem wu64N {a : Nat} (h : a < 18446744073709551616) : IntKind.u64.wrap (a : Int) = (a : Int) := wu64 (by omega) (by omega)
theorem wu64M (a : Nat) : IntKind.u64.wrap (a : Int) = ((a % 18446744073709551616 : Nat) : Int) := by rw [wu64_mod]; omega
theorem ofInt_nat (a : Nat) : BitVec.ofInt 64 (a : Int) = BitVec.ofNat 64 a := by simp
theorem maskN {a : Nat} (ha : a < 18446744073709551616) : (((BitVec.ofInt 64 (a : Int) &&& BitVec.ofInt 64 4294967295).toNat : Nat) : Int) = ((a % 4294967296 : Nat) : Int) := by
  have e : BitVec.ofInt 64 4294967295 = BitVec.ofNat 64 4294967295 := ofInt_nat 4294967295
  rw [ofInt_nat, e, BitVec.toNat_and, BitVec.toNat_ofNat, BitVec.toNat_ofNat]
  have e1 : a % 2 ^ 64 = a := Nat.mod_eq_of_lt (by omega)
  have e2 : (4294967295 : Nat) % 2 ^ 64 = 2 ^ 32 - 1 := by decide
  rw [e1, e2, Nat.and_two_pow_sub_one_eq_mod]
theorem fdivN (a : Nat) : (a : Int).fdiv (2 ^ 32) = ((a / 4294967296 : Nat) : Int) := by
  rw [Int.fdiv_eq_ediv_of_nonneg _ (by decide)]
  rfl
theorem mulN (a b : Nat) : (a : Int) * (b : Int) = ((a * b : Nat) : Int) := (Int.natCast_mul a b).symm
theorem addN (a b : Nat) : (a : Int) + (b : Int) = ((a + b : Nat) : Int) := (Int.natCast_add a b).symm
theorem subN {a b : Nat} (h : b ≤ a) : (a : Int) - (b : Int) = ((a - b : Nat) : Int) := (Int.ofNat_sub h).symm
theorem tdivN (a b : Nat) : (a : Int).tdiv b = ((a / b : Nat) : Int) := rfl
theorem tmodN (a b : Nat) : (a : Int).tmod b = ((a % b : Nat) : Int) := rfl
theorem Mul64_ok {x y : Nat} (hx : x < 18446744073709551616) (hy : y < 18446744073709551616) : bits_Mul64 x y = some (e_U64_U64 ((x * y / 18446744073709551616 : Nat) : Int) ((x * y % 18446744073709551616 : Nat) : Int)) := by
  obtain ⟨bd, bt, bw, hhi⟩ := Lib.mul64_hi x y hx hy
  have ba := Lib.half_mul_le (a := x / 4294967296) (b := y / 4294967296) (by omega) (by omega)
  have bb := Lib.half_mul_le (a := x / 4294967296) (b := y % 4294967296) (by omega) (by omega)
  have bc := Lib.half_mul_le (a := x % 4294967296) (b := y / 4294967296) (by omega) (by omega)
  have ba' : x / 4294967296 * (y / 4294967296) < 18446744073709551616 := by omega
  have bb' : x / 4294967296 * (y % 4294967296) < 18446744073709551616 := by omega
  have bc' : x % 4294967296 * (y / 4294967296) < 18446744073709551616 := by omega
  have bh1 : x / 4294967296 * (y / 4294967296) + (x / 4294967296 * (y % 4294967296) + x % 4294967296 * (y % 4294967296) / 4294967296) / 4294967296 < 18446744073709551616 := by omega
  have bh : x / 4294967296 * (y / 4294967296) + (x / 4294967296 * (y % 4294967296) + x % 4294967296 * (y % 4294967296) / 4294967296) / 4294967296 + ((x / 4294967296 * (y % 4294967296) + x % 4294967296 * (y % 4294967296) / 4294967296) % 4294967296 + x % 4294967296 * (y / 4294967296)) / 4294967296 < 18446744073709551616 := by omega
  have m1 : x % 4294967296 < 18446744073709551616 := by omega
  have m2 : y % 4294967296 < 18446744073709551616 := by omega
  have m3 : (x / 4294967296 * (y % 4294967296) + x % 4294967296 * (y % 4294967296) / 4294967296) % 4294967296 < 18446744073709551616 := by omega
  rw [bits_Mul64_eq]
  simp only [maskN hx, maskN hy, fdivN, mulN, addN, wu64N m1, wu64N m2, wu64N bd, wu64N bb', wu64N bt, maskN bt, wu64N m3, wu64N bc', wu64N bw, wu64N ba', wu64N bh1, wu64N bh, wu64M (x * y)]
  rw [hhi]
end Go.Vm
set_option linter.unusedVariables false
set_option linter.unusedSimpArgs false
namespace Go.Vm
open Go.Proofs
theorem len8_ok : ∀ k : Fin 256, 0 < k.val → 2 ^ ((len8tab.getD k.val 0).toNat - 1) ≤ k.val ∧ k.val < 2 ^ (len8tab.getD k.val 0).toNat ∧ 1 ≤ (len8tab.getD k.val 0).toNat ∧ (len8tab.getD k.val 0).toNat ≤ 8 := by decide +kernel
theorem wu8N {a : Nat} (h : a < 256) : IntKind.u8.wrap (a : Int) = (a : Int) := IntWalk.u8_in _ ⟨by omega, by omega⟩
theorem inB_nat {k n : Nat} (h : k < n) : inB (k : Int) n = true := by simp [inB]; omega
theorem fdivP (a b : Nat) : (a : Int).fdiv (2 ^ b) = ((a / 2 ^ b : Nat) : Int) := by
  have : (2 ^ b : Int) = ((2 ^ b : Nat) : Int) := by simp
  rw [this]
  exact (Int.fdiv_eq_ediv_of_nonneg _ (Int.natCast_nonneg _)).trans rfl
def IsLen (a n : Nat) : Prop := 1 ≤ n ∧ n ≤ 64 ∧ 2 ^ (n - 1) ≤ a ∧ a < 2 ^ n
theorem leaf8 {a b k : Nat} (hk : a / 2 ^ b = k) (h0 : 0 < k) (h1 : k < 256) (hb : b ≤ 56) : IsLen a (b + (len8tab.getD k 0).toNat) ∧ (len8tab.getD k 0).toNat ≤ 8 := by
  obtain ⟨a1, a2, a3, a4⟩ := len8_ok ⟨k, h1⟩ h0
  simp only at a1 a2 a3 a4
  generalize (len8tab.getD k 0).toNat = t at *
  refine ⟨⟨by omega, by omega, ?_, ?_⟩, a4⟩
  · rw [show b + t - 1 = b + (t - 1) by omega, Nat.pow_add]
    have : 2 ^ b * 2 ^ (t - 1) ≤ 2 ^ b * k := Nat.mul_le_mul_left _ a1
    have h2 : 2 ^ b * k ≤ a := by rw [← hk]; exact Nat.mul_div_le _ _
    omega
  · rw [Nat.pow_add]
    have h2 : a < 2 ^ b * (k + 1) := by rw [← hk]; exact Nat.lt_mul_div_succ _ (Nat.two_pow_pos _)
    have : 2 ^ b * (k + 1) ≤ 2 ^ b * 2 ^ t := Nat.mul_le_mul_left _ a2
    omega
theorem leaf_some {a b k : Nat} (x : Int) (hk : a / 2 ^ b = k) (h0 : 0 < k) (h1 : k < 256) (hb : b ≤ 56) (hx : x = b) :
    ∃ n, br (inB (IntKind.u8.wrap (k : Int)) 256) (some (e_I64 (IntKind.i64.wrap (x + IntKind.i64.wrap ((len8tab.getD (IntKind.u8.wrap (k : Int)).toNat 0).toNat : Int))))) none = some (e_I64 (n : Nat)) ∧ IsLen a n := by
  obtain ⟨h, ht⟩ := leaf8 hk h0 h1 hb
  refine ⟨_, ?_, h⟩
  rw [wu8N h1, inB_nat h1, br_t, Int.toNat_natCast, hx]
  generalize (len8tab.getD k 0).toNat = t at *
  rw [w64 (n := (t : Int)) (by omega) (by omega), w64 (by omega) (by omega)]
  rfl
theorem Len64_ok {a : Nat} (h0 : 0 < a) (h : a < 18446744073709551616) : ∃ n : Nat, bits_Len64 a = some (e_I64 n) ∧ IsLen a n := by
  rw [bits_Len64_eq]
  simp only [fdivP]
  have d2 : ∀ x y z : Nat, x / 2 ^ y / 2 ^ z = x / 2 ^ (y + z) := fun x y z => by rw [Nat.div_div_eq_div_mul, Nat.pow_add]
  simp only [d2]
  by_cases c1 : a ≥ 4294967296
  · rw [br_p (by omega)]
    by_cases c2 : a / 2 ^ 32 ≥ 65536
    · rw [br_p (by omega)]
      by_cases c3 : a / 2 ^ (32 + 16) ≥ 256
      · rw [br_p (by omega)]
        exact leaf_some _ rfl (by omega) (by omega) (by omega) (by decide)
      · rw [br_n (by omega)]
        exact leaf_some _ rfl (by omega) (by omega) (by omega) (by decide)
    · rw [br_n (by omega)]
      by_cases c3 : a / 2 ^ 32 ≥ 256
      · rw [br_p (by omega)]
        exact leaf_some _ rfl (by omega) (by omega) (by omega) (by decide)
      · rw [br_n (by omega)]
        exact leaf_some _ rfl (by omega) (by omega) (by omega) (by decide)
  · rw [br_n (by omega)]
    by_cases c2 : a ≥ 65536
    · rw [br_p (by omega)]
      by_cases c3 : a / 2 ^ 16 ≥ 256
      · rw [br_p (by omega)]
        exact leaf_some _ rfl (by omega) (by omega) (by omega) (by decide)
      · rw [br_n (by omega)]
        exact leaf_some _ rfl (by omega) (by omega) (by omega) (by decide)
    · rw [br_n (by omega)]
      by_cases c3 : a ≥ 256
      · rw [br_p (by omega)]
        exact leaf_some _ rfl (by omega) (by omega) (by omega) (by decide)
      · rw [br_n (by omega)]
        exact leaf_some (b := 0) _ (by omega) h0 (by omega) (by omega) (by decide)
section step
variable {y yn1 yn0 u d : Nat}
theorem digit_exit {q r : Nat} (hy : y = yn1 * 4294967296 + yn0) (h1 : 2147483648 ≤ yn1) (hq : q * yn1 + r = u) (hQ : (u * 4294967296 + d) / y ≤ q) (ht : q * yn0 ≤ 4294967296 * r + d) : q = (u * 4294967296 + d) / y := by
  have hy0 : 0 < y := by omega
  refine Nat.le_antisymm ((Nat.le_div_iff_mul_le hy0).2 ?_) hQ
  rw [hy, Nat.mul_add, ← hq, Nat.add_mul, ← Nat.mul_assoc]
  omega
theorem digit_lt (hy0 : 0 < y) (hu : u < y) (hd : d < 4294967296) : (u * 4294967296 + d) / y < 4294967296 := by
  rw [Nat.div_lt_iff_lt_mul hy0]
  have : (u + 1) * 4294967296 ≤ y * 4294967296 := Nat.mul_le_mul_right _ hu
  omega
theorem digit_down {q r : Nat} (hy : y = yn1 * 4294967296 + yn0) (h1 : 2147483648 ≤ yn1) (hu : u < y) (hd : d < 4294967296) (hq : q * yn1 + r = u) (hQ : (u * 4294967296 + d) / y ≤ q)
    (ht : 4294967296 ≤ q ∨ 4294967296 * r + d < q * yn0) : (u * 4294967296 + d) / y < q := by
  have hy0 : 0 < y := by omega
  rcases ht with ht | ht
  · have := digit_lt hy0 hu hd; omega
  · rw [Nat.div_lt_iff_lt_mul hy0, hy, Nat.mul_add, ← hq, Nat.add_mul, ← Nat.mul_assoc]
    omega
theorem guess_le {q r : Nat} (hy : y = yn1 * 4294967296 + yn0) (h1 : 2147483648 ≤ yn1) (h3 : yn0 < 4294967296) (hu : u < y) (hq : q * yn1 + r = u) : q ≤ 4294967297 := by
  have : ¬ 4294967298 ≤ q := fun hh => by
    have := Nat.mul_le_mul_right yn1 hh
    omega
  omega
theorem digit_break {q r : Nat} (hy : y = yn1 * 4294967296 + yn0) (h1 : 2147483648 ≤ yn1) (h3 : yn0 < 4294967296) (hq : q * yn1 + r = u) (hb : q ≤ 4294967296) (hr : 4294967296 ≤ r) (hQ : (u * 4294967296 + d) / y ≤ q) : q = (u * 4294967296 + d) / y := by
  have : q * yn0 ≤ 4294967296 * 4294967296 := Nat.mul_le_mul hb (by omega)
  have := Nat.mul_le_mul_left 4294967296 hr
  exact digit_exit hy h1 hq hQ (by omega)
theorem left_wrap {Q : Nat} (hy0 : 0 < y) (hyM : y ≤ 18446744073709551616) (e : Q = (u * 4294967296 + d) / y) :
    IntKind.u64.wrap (IntKind.u64.wrap (IntKind.u64.wrap ((u : Int) * 4294967296) + d) - IntKind.u64.wrap ((Q : Int) * y)) = (((u * 4294967296 + d) % y : Nat) : Int) := by
  have h1 : Q * y + (u * 4294967296 + d) % y = u * 4294967296 + d := by rw [e, Nat.mul_comm]; exact Nat.div_add_mod _ _
  have h2 := Nat.mod_lt (u * 4294967296 + d) hy0
  rw [mulN]
  generalize (u * 4294967296 + d) % y = m at *
  generalize Q * y = p at *
  simp only [wu64_mod]
  omega
end step
theorem k2_ok : ∀ (fuel : Nat) (y s yn1 yn0 u d q1 q r : Nat), 4294967296 - r ≤ fuel * 2147483648 → y = yn1 * 4294967296 + yn0 → 2147483648 ≤ yn1 → yn1 < 4294967296 → yn0 < 4294967296 → u < y → d < 4294967296 → q * yn1 + r = u → r < 4294967296 → (u * 4294967296 + d) / y ≤ q → s ≤ 64 →
    bits_Div64_k16777184 y s yn1 yn0 d q1 r u q = some (e_U64_U64 (IntKind.u64.wrap (IntKind.u64.wrap ((q1 : Int) * 4294967296) + (((u * 4294967296 + d) / y : Nat) : Int))) (((u * 4294967296 + d) % y / 2 ^ s : Nat) : Int)) := by
  intro fuel
  induction fuel with
  | zero => intro y s yn1 yn0 u d q1 q r h0; omega
  | succ fuel ih =>
    intro y s yn1 yn0 u d q1 q r h0 hy h1 h2 h3 hu hd hq hr hQ hs
    have hy0 : 0 < y := by omega
    have hyM : y ≤ 18446744073709551616 := by omega
    have hg := guess_le hy h1 h3 hu hq
    have hp : q * yn0 < 18446744073709551616 := by
      have := Nat.mul_le_mul hg (show yn0 ≤ 4294967295 by omega)
      omega
    have em : min ((s : Int)).toNat 64 = s := by rw [Int.toNat_natCast]; omega
    have fin : ∀ Q : Nat, Q = (u * 4294967296 + d) / y → (some (e_U64_U64 (IntKind.u64.wrap (IntKind.u64.wrap ((q1 : Int) * 4294967296) + (Q : Int))) ((IntKind.u64.wrap (IntKind.u64.wrap (IntKind.u64.wrap ((u : Int) * 4294967296) + d) - IntKind.u64.wrap ((Q : Int) * y))).fdiv (2 ^ min ((s : Int)).toNat 64)))) =
        some (e_U64_U64 (IntKind.u64.wrap (IntKind.u64.wrap ((q1 : Int) * 4294967296) + (((u * 4294967296 + d) / y : Nat) : Int))) (((u * 4294967296 + d) % y / 2 ^ s : Nat) : Int)) := fun Q e => by
      rw [left_wrap hy0 hyM e, em, fdivP, ← e]
    have down : (4294967296 ≤ q ∨ 4294967296 * r + d < q * yn0) → (br (decide (IntKind.u64.wrap ((r : Int) + yn1) ≥ 4294967296)) (br (decide ((s : Int) < 0)) none (some (e_U64_U64 (IntKind.u64.wrap (IntKind.u64.wrap ((q1 : Int) * 4294967296) + IntKind.u64.wrap ((q : Int) - 1))) ((IntKind.u64.wrap (IntKind.u64.wrap (IntKind.u64.wrap ((u : Int) * 4294967296) + d) - IntKind.u64.wrap (IntKind.u64.wrap ((q : Int) - 1) * y))).fdiv (2 ^ min ((s : Int)).toNat 64))))) (bits_Div64_k16777184 y s yn1 yn0 d q1 (IntKind.u64.wrap ((r : Int) + yn1)) u (IntKind.u64.wrap ((q : Int) - 1)))) =
        some (e_U64_U64 (IntKind.u64.wrap (IntKind.u64.wrap ((q1 : Int) * 4294967296) + (((u * 4294967296 + d) / y : Nat) : Int))) (((u * 4294967296 + d) % y / 2 ^ s : Nat) : Int)) := fun ht => by
      have hlt := digit_down hy h1 hu hd hq hQ ht
      have hpos : 0 < q := Nat.lt_of_le_of_lt (Nat.zero_le _) hlt
      obtain ⟨q', rfl⟩ : ∃ q', q = q' + 1 := ⟨q - 1, by omega⟩
      have hq' : q' * yn1 + (r + yn1) = u := by rw [Nat.add_mul] at hq; omega
      have e1 : IntKind.u64.wrap (((q' + 1 : Nat) : Int) - 1) = (q' : Int) := by rw [wu64 (by omega) (by omega)]; omega
      have e2 : IntKind.u64.wrap ((r : Int) + yn1) = ((r + yn1 : Nat) : Int) := by rw [wu64 (by omega) (by omega)]; omega
      rw [e1, e2]
      by_cases hb : 4294967296 ≤ r + yn1
      · rw [br_p (by omega), br_n (by omega)]
        exact fin q' (digit_break hy h1 h3 hq' (by omega) hb (by omega))
      · rw [br_n (by omega)]
        exact ih y s yn1 yn0 u d q1 q' (r + yn1) (by omega) hy h1 h2 h3 hu hd hq' (by omega) (by omega) hs
    rw [bits_Div64_k16777184_eq]
    have e3 : IntKind.u64.wrap ((q : Int) * yn0) = ((q * yn0 : Nat) : Int) := by rw [mulN, wu64N hp]
    have e4 : IntKind.u64.wrap (IntKind.u64.wrap (4294967296 * (r : Int)) + d) = ((4294967296 * r + d : Nat) : Int) := by
      rw [wu64 (n := 4294967296 * (r : Int)) (by omega) (by omega), wu64 (by omega) (by omega)]; omega
    by_cases c1 : 4294967296 ≤ q
    · rw [br_p (by omega)]
      exact down (.inl c1)
    · rw [br_n (by omega), e3, e4]
      by_cases c2 : 4294967296 * r + d < q * yn0
      · rw [br_p (by omega)]
        exact down (.inr c2)
      · rw [br_n (by omega), br_n (by omega)]
        exact fin q (digit_exit hy h1 hq hQ (by omega))
theorem start2 {y yn1 yn0 u d : Nat} (hy : y = yn1 * 4294967296 + yn0) (h1 : 2147483648 ≤ yn1) : (u * 4294967296 + d) / y ≤ u / yn1 ∨ 4294967296 ≤ d := by
  by_cases hd : 4294967296 ≤ d
  · exact .inr hd
  · left
    have hy0 : 0 < y := by omega
    have e : (u * 4294967296 + d) / 4294967296 = u := by omega
    have : (u * 4294967296 + d) / (yn1 * 4294967296) = u / yn1 := by
      rw [Nat.mul_comm yn1, ← Nat.div_div_eq_div_mul, e]
    rw [← this]
    exact Nat.div_le_div_left (by omega) (by omega)
theorem k1_ok : ∀ (fuel : Nat) (y s yn1 yn0 u d e q r : Nat), 4294967296 - r ≤ fuel * 2147483648 → y = yn1 * 4294967296 + yn0 → 2147483648 ≤ yn1 → yn1 < 4294967296 → yn0 < 4294967296 → u < y → d < 4294967296 → e < 4294967296 → q * yn1 + r = u → r < 4294967296 → (u * 4294967296 + d) / y ≤ q → s ≤ 64 →
    bits_Div64_k1048544 y s yn1 yn0 u d e q r = some (e_U64_U64 (((u * 4294967296 + d) / y * 4294967296 + ((u * 4294967296 + d) % y * 4294967296 + e) / y : Nat) : Int) ((((u * 4294967296 + d) % y * 4294967296 + e) % y / 2 ^ s : Nat) : Int)) := by
  intro fuel
  induction fuel with
  | zero => intro y s yn1 yn0 u d e q r h0; omega
  | succ fuel ih =>
    intro y s yn1 yn0 u d e q r h0 hy h1 h2 h3 hu hd he hq hr hQ hs
    have hy0 : 0 < y := by omega
    have hyM : y ≤ 18446744073709551616 := by omega
    have hg := guess_le hy h1 h3 hu hq
    have hp : q * yn0 < 18446744073709551616 := by
      have := Nat.mul_le_mul hg (show yn0 ≤ 4294967295 by omega)
      omega
    have fin : ∀ Q : Nat, Q = (u * 4294967296 + d) / y → (br (decide ((yn1 : Int) = 0)) none (bits_Div64_k16777184 y s yn1 yn0 e Q (IntKind.u64.wrap (IntKind.u64.wrap (IntKind.u64.wrap (IntKind.u64.wrap ((u : Int) * 4294967296) + d) - IntKind.u64.wrap ((Q : Int) * y)) - IntKind.u64.wrap (IntKind.u64.wrap ((IntKind.u64.wrap (IntKind.u64.wrap (IntKind.u64.wrap ((u : Int) * 4294967296) + d) - IntKind.u64.wrap ((Q : Int) * y))).tdiv yn1) * yn1))) (IntKind.u64.wrap (IntKind.u64.wrap (IntKind.u64.wrap ((u : Int) * 4294967296) + d) - IntKind.u64.wrap ((Q : Int) * y))) (IntKind.u64.wrap ((IntKind.u64.wrap (IntKind.u64.wrap (IntKind.u64.wrap ((u : Int) * 4294967296) + d) - IntKind.u64.wrap ((Q : Int) * y))).tdiv yn1)))) =
        some (e_U64_U64 (((u * 4294967296 + d) / y * 4294967296 + ((u * 4294967296 + d) % y * 4294967296 + e) / y : Nat) : Int) ((((u * 4294967296 + d) % y * 4294967296 + e) % y / 2 ^ s : Nat) : Int)) := fun Q eQ => by
      rw [left_wrap hy0 hyM eQ]
      have hQl := digit_lt hy0 hu hd
      rw [← eQ] at hQl ⊢
      have key : ∀ m : Nat, m < y → (br (decide ((yn1 : Int) = 0)) none (bits_Div64_k16777184 y s yn1 yn0 e Q (IntKind.u64.wrap ((m : Int) - IntKind.u64.wrap (IntKind.u64.wrap ((m : Int).tdiv yn1) * yn1))) m (IntKind.u64.wrap ((m : Int).tdiv yn1)))) =
          some (e_U64_U64 ((Q * 4294967296 + (m * 4294967296 + e) / y : Nat) : Int) (((m * 4294967296 + e) % y / 2 ^ s : Nat) : Int)) := fun m hm => by
        have hd1 : m / yn1 * yn1 + m % yn1 = m := by rw [Nat.mul_comm]; exact Nat.div_add_mod m yn1
        have hd2 := Nat.mod_lt m (show 0 < yn1 by omega)
        have hle := Nat.div_le_self m yn1
        have hr0 : m / yn1 * yn1 + (m - m / yn1 * yn1) = m := by omega
        have hr1 : m - m / yn1 * yn1 < 4294967296 := by omega
        rw [br_n (by omega), tdivN, wu64N (a := m / yn1) (by omega), mulN, wu64N (a := m / yn1 * yn1) (by omega), subN (by omega), wu64N (a := m - m / yn1 * yn1) (by omega)]
        rw [k2_ok 3 y s yn1 yn0 m e Q (m / yn1) (m - m / yn1 * yn1) (by omega) hy h1 h2 h3 hm he hr0 hr1 ((start2 hy h1).resolve_right (by omega)) hs]
        have hl2 := digit_lt hy0 hm he
        have hz := Int.natCast_nonneg ((m * 4294967296 + e) / y)
        rw [wu64 (n := (Q : Int) * 4294967296) (by omega) (by omega), wu64 (by omega) (by omega)]
        rfl
      exact key _ (Nat.mod_lt _ hy0)
    have down : (4294967296 ≤ q ∨ 4294967296 * r + d < q * yn0) → (br (decide (IntKind.u64.wrap ((r : Int) + yn1) ≥ 4294967296)) (br (decide ((yn1 : Int) = 0)) none (bits_Div64_k16777184 y s yn1 yn0 e (IntKind.u64.wrap ((q : Int) - 1)) (IntKind.u64.wrap (IntKind.u64.wrap (IntKind.u64.wrap (IntKind.u64.wrap ((u : Int) * 4294967296) + d) - IntKind.u64.wrap (IntKind.u64.wrap ((q : Int) - 1) * y)) - IntKind.u64.wrap (IntKind.u64.wrap ((IntKind.u64.wrap (IntKind.u64.wrap (IntKind.u64.wrap ((u : Int) * 4294967296) + d) - IntKind.u64.wrap (IntKind.u64.wrap ((q : Int) - 1) * y))).tdiv yn1) * yn1))) (IntKind.u64.wrap (IntKind.u64.wrap (IntKind.u64.wrap ((u : Int) * 4294967296) + d) - IntKind.u64.wrap (IntKind.u64.wrap ((q : Int) - 1) * y))) (IntKind.u64.wrap ((IntKind.u64.wrap (IntKind.u64.wrap (IntKind.u64.wrap ((u : Int) * 4294967296) + d) - IntKind.u64.wrap (IntKind.u64.wrap ((q : Int) - 1) * y))).tdiv yn1)))) (bits_Div64_k1048544 y s yn1 yn0 u d e (IntKind.u64.wrap ((q : Int) - 1)) (IntKind.u64.wrap ((r : Int) + yn1)))) =
        some (e_U64_U64 (((u * 4294967296 + d) / y * 4294967296 + ((u * 4294967296 + d) % y * 4294967296 + e) / y : Nat) : Int) ((((u * 4294967296 + d) % y * 4294967296 + e) % y / 2 ^ s : Nat) : Int)) := fun ht => by
      have hlt := digit_down hy h1 hu hd hq hQ ht
      have hpos : 0 < q := Nat.lt_of_le_of_lt (Nat.zero_le _) hlt
      obtain ⟨q', rfl⟩ : ∃ q', q = q' + 1 := ⟨q - 1, by omega⟩
      have hq' : q' * yn1 + (r + yn1) = u := by rw [Nat.add_mul] at hq; omega
      have e1 : IntKind.u64.wrap (((q' + 1 : Nat) : Int) - 1) = (q' : Int) := by rw [wu64 (by omega) (by omega)]; omega
      have e2 : IntKind.u64.wrap ((r : Int) + yn1) = ((r + yn1 : Nat) : Int) := by rw [wu64 (by omega) (by omega)]; omega
      rw [e1, e2]
      by_cases hb : 4294967296 ≤ r + yn1
      · rw [br_p (by omega)]
        exact fin q' (digit_break hy h1 h3 hq' (by omega) hb (by omega))
      · rw [br_n (by omega)]
        exact ih y s yn1 yn0 u d e q' (r + yn1) (by omega) hy h1 h2 h3 hu hd he hq' (by omega) (by omega) hs
    rw [bits_Div64_k1048544_eq]
    have e3 : IntKind.u64.wrap ((q : Int) * yn0) = ((q * yn0 : Nat) : Int) := by rw [mulN, wu64N hp]
    have e4 : IntKind.u64.wrap (IntKind.u64.wrap (4294967296 * (r : Int)) + d) = ((4294967296 * r + d : Nat) : Int) := by
      rw [wu64 (n := 4294967296 * (r : Int)) (by omega) (by omega), wu64 (by omega) (by omega)]; omega
    by_cases c1 : 4294967296 ≤ q
    · rw [br_p (by omega)]
      exact down (.inl c1)
    · rw [br_n (by omega), e3, e4]
      by_cases c2 : 4294967296 * r + d < q * yn0
      · rw [br_p (by omega)]
        exact down (.inr c2)
      · rw [br_n (by omega)]
        exact fin q (digit_exit hy h1 hq hQ (by omega))
end Go.Vm
set_option linter.unusedVariables false
set_option linter.unusedSimpArgs false
namespace Go.Vm
open Go.Proofs
theorem orN {a b : Nat} (ha : a < 18446744073709551616) (hb : b < 18446744073709551616) : ((BitVec.ofInt 64 (a : Int) ||| BitVec.ofInt 64 (b : Int)).toNat : Nat) = a ||| b := by
  rw [ofInt_nat, ofInt_nat, BitVec.toNat_or, BitVec.toNat_ofNat, BitVec.toNat_ofNat]
  have e1 : a % 2 ^ 64 = a := Nat.mod_eq_of_lt (by omega)
  have e2 : b % 2 ^ 64 = b := Nat.mod_eq_of_lt (by omega)
  rw [e1, e2]
theorem powN (s : Nat) : (2 : Int) ^ s = ((2 ^ s : Nat) : Int) := by simp
theorem div_two (B X y e Q m : Nat) (hy0 : 0 < y) (hQ : Q = X / y) (hm : m = X % y) : Q * B + (m * B + e) / y = (X * B + e) / y ∧ (m * B + e) % y = (X * B + e) % y := by
  have h : X * B + e = m * B + e + y * (Q * B) := by
    have := Nat.div_add_mod X y
    rw [← hQ, ← hm] at this
    rw [← this, Nat.add_mul, Nat.mul_assoc]
    omega
  rw [h, Nat.add_mul_div_left _ _ hy0, Nat.add_mul_mod_self_left]
  exact ⟨by omega, rfl⟩
theorem div_fin (B W u L Y S q r : Nat) (hY0 : 0 < Y) (hW : B * B = W) (hq : (u * W + L) / Y = q) (hm : (u * W + L) % Y / S = r) :
    (u * B + L / B) / Y * B + ((u * B + L / B) % Y * B + L % B) / Y = q ∧ ((u * B + L / B) % Y * B + L % B) % Y / S = r := by
  have h : (u * B + L / B) * B + L % B = u * W + L := by rw [Nat.add_mul, Nat.mul_assoc, hW, Nat.add_assoc, Nat.div_add_mod']
  obtain ⟨f1, f2⟩ := div_two B (u * B + L / B) Y (L % B) _ _ hY0 rfl rfl
  rw [h] at f1 f2
  rw [f1, f2]
  exact ⟨hq, hm⟩
theorem pair_eq {a b c d : Nat} (h1 : a = c) (h2 : b = d) : some (e_U64_U64 (a : Int) (b : Int)) = some (e_U64_U64 (c : Int) (d : Int)) := by rw [h1, h2]
theorem Lz_ok {y : Nat} (h0 : 0 < y) (h : y < 18446744073709551616) : ∃ s : Nat, bits_LeadingZeros64 y = some (e_I64 s) ∧ s ≤ 63 ∧ 9223372036854775808 ≤ y * 2 ^ s ∧ y * 2 ^ s < 18446744073709551616 := by
  obtain ⟨n, hn, h1, h2, h3, h4⟩ := Len64_ok h0 h
  refine ⟨64 - n, ?_, by omega, ?_, ?_⟩
  · rw [bits_LeadingZeros64_eq, hn, o_I64_e, w64 (by omega) (by omega)]
    congr 2; omega
  · have := Nat.mul_le_mul_right (2 ^ (64 - n)) h3
    rw [← Nat.pow_add, show n - 1 + (64 - n) = 63 by omega] at this
    omega
  · have := Nat.mul_lt_mul_of_pos_right h4 (Nat.two_pow_pos (64 - n))
    rw [← Nat.pow_add, show n + (64 - n) = 64 by omega] at this
    omega
theorem Div64_ok {hi lo y : Nat} (h0 : hi < y) (hlo : lo < 18446744073709551616) (hy : y < 18446744073709551616) :
    bits_Div64 hi lo y = some (e_U64_U64 (((hi * 18446744073709551616 + lo) / y : Nat) : Int) (((hi * 18446744073709551616 + lo) % y : Nat) : Int)) := by
  rw [bits_Div64_eq, br_ne (by omega), br_n (by omega)]
  by_cases hz : hi = 0
  · subst hz
    rw [br_eq (by rfl), br_n (by omega), br_n (by omega), tdivN, tmodN, wu64N (a := lo / y) (by have := Nat.div_le_self lo y; omega)]
    simp only [Nat.zero_mul, Nat.zero_add]
  · rw [br_ne (by omega)]
    obtain ⟨s, hs, hs1, hs2, hs3⟩ := Lz_ok (by omega) hy
    rw [hs, o_I64_e]
    have e1 : IntKind.u64.wrap (s : Int) = (s : Int) := wu64 (by omega) (by omega)
    have e2 : IntKind.u64.wrap (64 - (s : Int)) = ((64 - s : Nat) : Int) := by rw [wu64 (by omega) (by omega)]; omega
    have e3 : min (s : Int).toNat 64 = s := by rw [Int.toNat_natCast]; omega
    have e4 : min ((64 - s : Nat) : Int).toNat 64 = 64 - s := by rw [Int.toNat_natCast]; omega
    rw [e1, e2, e3, e4]
    have hy1 : IntKind.u64.wrap ((y : Int) * 2 ^ s) = ((y * 2 ^ s : Nat) : Int) := by rw [powN, mulN, wu64N hs3]
    have hp := Nat.two_pow_pos s
    have hh : hi * 2 ^ s < y * 2 ^ s := Nat.mul_lt_mul_of_pos_right h0 hp
    have hh1 : IntKind.u64.wrap ((hi : Int) * 2 ^ s) = ((hi * 2 ^ s : Nat) : Int) := by rw [powN, mulN, wu64N (by omega)]
    have hl1 : IntKind.u64.wrap ((lo : Int) * 2 ^ s) = ((lo * 2 ^ s % 18446744073709551616 : Nat) : Int) := by rw [powN, mulN, wu64M]
    have hpp : (18446744073709551616 : Nat) = 2 ^ (64 - s) * 2 ^ s := by rw [← Nat.pow_add, show 64 - s + s = 64 by omega]
    have hlt : lo / 2 ^ (64 - s) < 2 ^ s := by
      rw [Nat.div_lt_iff_lt_mul (Nat.two_pow_pos _), Nat.mul_comm, ← hpp]; exact hlo
    have hor : (hi * 2 ^ s) ||| (lo / 2 ^ (64 - s)) = hi * 2 ^ s + lo / 2 ^ (64 - s) := by
      rw [Nat.mul_comm hi]; exact (Nat.two_pow_add_eq_or_of_lt hlt hi).symm
    have hls : lo * 2 ^ s / 18446744073709551616 = lo / 2 ^ (64 - s) := by rw [hpp, Nat.mul_div_mul_right _ _ hp]
    have hu : hi * 2 ^ s + lo / 2 ^ (64 - s) < y * 2 ^ s := by
      have := Nat.mul_le_mul_right (2 ^ s) (show hi + 1 ≤ y by omega)
      rw [Nat.add_mul] at this
      omega
    rw [hy1, hh1, hl1, fdivP lo (64 - s), orN (by omega) (by have := Nat.div_le_self lo (2 ^ (64 - s)); omega), hor]
    have hld := Nat.div_add_mod (lo * 2 ^ s) 18446744073709551616
    rw [hls] at hld
    have hLm := Nat.mod_lt (lo * 2 ^ s) (show 0 < 18446744073709551616 by decide)
    have hN : (hi * 2 ^ s + lo / 2 ^ (64 - s)) * 18446744073709551616 + lo * 2 ^ s % 18446744073709551616 = (hi * 18446744073709551616 + lo) * 2 ^ s := by
      rw [Nat.add_mul (hi * 18446744073709551616), ← hld]
      rw [Nat.mul_right_comm hi]
      omega
    have hq : (hi * 18446744073709551616 + lo) * 2 ^ s / (y * 2 ^ s) = (hi * 18446744073709551616 + lo) / y := Nat.mul_div_mul_right _ _ hp
    have hm : (hi * 18446744073709551616 + lo) * 2 ^ s % (y * 2 ^ s) / 2 ^ s = (hi * 18446744073709551616 + lo) % y := by
      rw [Nat.mul_mod_mul_right, Nat.mul_div_cancel _ hp]
    rw [← hN] at hq hm
    generalize hY : y * 2 ^ s = Y at *
    generalize hU : hi * 2 ^ s + lo / 2 ^ (64 - s) = u at *
    generalize hL : lo * 2 ^ s % 18446744073709551616 = L at *
    rw [maskN (a := Y) (by omega), maskN (a := L) (by omega), fdivN, fdivN, wu64N (a := Y % 4294967296) (by omega), wu64N (a := u) (by omega), wu64N (a := L % 4294967296) (by omega)]
    have hd1 : u / (Y / 4294967296) * (Y / 4294967296) + u % (Y / 4294967296) = u := by rw [Nat.mul_comm]; exact Nat.div_add_mod _ _
    have hd2 := Nat.mod_lt u (show 0 < Y / 4294967296 by omega)
    have hd3 := Nat.div_le_self u (Y / 4294967296)
    rw [tdivN, wu64N (a := u / (Y / 4294967296)) (by omega), mulN, wu64N (a := u / (Y / 4294967296) * (Y / 4294967296)) (by omega), subN (by omega), wu64N (a := u - u / (Y / 4294967296) * (Y / 4294967296)) (by omega)]
    rw [br_n (by omega), br_n (by omega), br_n (by omega), br_n (by omega), br_n (by omega)]
    have hyy : Y = Y / 4294967296 * 4294967296 + Y % 4294967296 := by omega
    rw [k1_ok 3 Y s (Y / 4294967296) (Y % 4294967296) u (L / 4294967296) (L % 4294967296) (u / (Y / 4294967296)) (u - u / (Y / 4294967296) * (Y / 4294967296)) (by omega) hyy (by omega) (by omega) (by omega) hu (by omega) (by omega) (by omega) (by omega) ((start2 hyy (by omega)).resolve_right (by omega)) (by omega)]
    obtain ⟨f1, f2⟩ := div_fin 4294967296 18446744073709551616 u L Y (2 ^ s) _ _ (by omega) rfl hq hm
    exact pair_eq f1 f2
end Go.Vm
set_option linter.unusedVariables false
set_option linter.unusedSimpArgs false
namespace Go.Vm
open Go.Proofs
theorem gcd_loop {f : Int → Int → Option (List D)} (hf : ∀ n0 n1, f n0 n1 = br (n1 != 0) (br (decide (n1 = 0)) none (f n1 (n0.tmod n1))) (some (e_I64 n0))) : ∀ b a : Nat, f a b = some (e_I64 (Nat.gcd a b : Nat)) := by
  intro b
  induction b using Nat.strongRecOn with
  | _ b ih =>
    intro a
    rw [hf]
    by_cases hb : b = 0
    · subst hb
      rw [br_eq' (by rfl), Nat.gcd_zero_right]
    · rw [br_ne' (by omega), br_n (by omega), tmodN, ih (a % b) (Nat.mod_lt _ (by omega)) b, Nat.gcd_comm b, ← Nat.gcd_rec b a, Nat.gcd_comm]
theorem ref03_gcd_ok (a b : Nat) : ref03_gcd a b = some (e_I64 (Nat.gcd a b : Nat)) := by rw [ref03_gcd_eq]; exact gcd_loop ref03_gcd_k96_eq b a
theorem ratio_divisor_ok (a b : Nat) : ratio_divisor a b = some (e_I64 (Nat.gcd a b : Nat)) := by rw [ratio_divisor_eq]; exact gcd_loop ratio_divisor_k96_eq b a
def RatOk (r : Y.Ratio) : Prop := 1 ≤ r.Num ∧ 1 ≤ r.Den ∧ r.Num ≤ 68719476736 ∧ r.Den ≤ 68719476736 ∧ Nat.gcd r.Num.toNat r.Den.toNat = 1
instance (r : Y.Ratio) : Decidable (RatOk r) := by unfold RatOk; infer_instance
theorem valid_gen {f : Y.Ratio → Option (List D)} {g : Int → Int → Option (List D)} (hg : ∀ a b : Nat, g a b = some (e_I64 (Nat.gcd a b : Nat)))
    (hf : ∀ a : Y.Ratio, f a = br (decide (a.Num ≥ 1)) (br (decide (a.Den ≥ 1)) (br (decide (a.Num ≤ 68719476736)) (br (decide (a.Den ≤ 68719476736)) (o_I64 (g a.Num a.Den) fun n1 => some (e_B (n1 == 1))) (some (e_B false))) (some (e_B false))) (some (e_B false))) (some (e_B false)))
    (r : Y.Ratio) : f r = some (e_B (decide (RatOk r))) := by
  rw [hf]
  by_cases h1 : 1 ≤ r.Num
  · rw [br_p (by omega)]
    by_cases h2 : 1 ≤ r.Den
    · rw [br_p (by omega)]
      by_cases h3 : r.Num ≤ 68719476736
      · rw [br_p (by omega)]
        by_cases h4 : r.Den ≤ 68719476736
        · rw [br_p (by omega)]
          have e1 : r.Num = ((r.Num.toNat : Nat) : Int) := by omega
          have e2 : r.Den = ((r.Den.toNat : Nat) : Int) := by omega
          have : g r.Num r.Den = some (e_I64 (Nat.gcd r.Num.toNat r.Den.toNat : Nat)) := by rw [← hg, ← e1, ← e2]
          rw [this, o_I64_e]
          congr 2
          rw [Bool.eq_iff_iff]
          simp only [beq_iff_eq, decide_eq_true_eq]
          exact ⟨fun h => ⟨h1, h2, h3, h4, by omega⟩, fun h => by have := h.2.2.2.2; omega⟩
        · rw [br_n (by omega), decide_eq_false fun h : RatOk r => h4 h.2.2.2.1]
      · rw [br_n (by omega), decide_eq_false fun h : RatOk r => h3 h.2.2.1]
    · rw [br_n (by omega), decide_eq_false fun h : RatOk r => h2 h.2.1]
  · rw [br_n (by omega), decide_eq_false fun h : RatOk r => h1 h.1]
theorem ref03_Valid_ok (r : Y.Ratio) : ref03_Valid r = some (e_B (decide (RatOk r))) := valid_gen ref03_gcd_ok ref03_Valid_eq r
theorem ratio_Valid_ok (r : Y.Ratio) : ratio_Valid r = some (e_B (decide (RatOk r))) := valid_gen ratio_divisor_ok ratio_Valid_eq r
def mkR (a b : Int) : Y.Ratio × Int := if a < 1 ∨ b < 1 then (⟨0, 0⟩, 1) else
  if a / Nat.gcd a.toNat b.toNat > 68719476736 ∨ b / Nat.gcd a.toNat b.toNat > 68719476736 then (⟨0, 0⟩, 2) else (⟨a / Nat.gcd a.toNat b.toNat, b / Nat.gcd a.toNat b.toNat⟩, 0)
theorem make_gen {f : Int → Int → Option (List D)} {g : Int → Int → Option (List D)} (hg : ∀ a b : Nat, g a b = some (e_I64 (Nat.gcd a b : Nat)))
    (hf : ∀ a b : Int, f a b = br (decide (a < 1)) (some (e_Ratio_I64 (Y.Ratio.mk 0 0) 1)) (br (decide (b < 1)) (some (e_Ratio_I64 (Y.Ratio.mk 0 0) 1)) (o_I64 (g a b) fun n1 => br (decide (n1 = 0)) none (br (decide (n1 = 0)) none (br (decide (IntKind.i64.wrap (a.tdiv n1) > 68719476736)) (some (e_Ratio_I64 (Y.Ratio.mk 0 0) 2)) (br (decide (IntKind.i64.wrap (b.tdiv n1) > 68719476736)) (some (e_Ratio_I64 (Y.Ratio.mk 0 0) 2)) (some (e_Ratio_I64 (Y.Ratio.mk (IntKind.i64.wrap (a.tdiv n1)) (IntKind.i64.wrap (b.tdiv n1))) 0))))))))
    {a b : Int} (ha : a ≤ 9223372036854775807) (hb : b ≤ 9223372036854775807) : f a b = some (e_Ratio_I64 (mkR a b).1 (mkR a b).2) := by
  rw [hf]
  unfold mkR
  by_cases h1 : a < 1
  · rw [br_p h1, if_pos (.inl h1)]
  · rw [br_n h1]
    by_cases h2 : b < 1
    · rw [br_p h2, if_pos (.inr h2)]
    · rw [br_n h2, if_neg (by omega)]
      have e1 : a = ((a.toNat : Nat) : Int) := by omega
      have e2 : b = ((b.toNat : Nat) : Int) := by omega
      have : g a b = some (e_I64 (Nat.gcd a.toNat b.toNat : Nat)) := by rw [← hg, ← e1, ← e2]
      have hp := Nat.gcd_pos_of_pos_left b.toNat (show 0 < a.toNat by omega)
      rw [this, o_I64_e, br_n (by omega), br_n (by omega)]
      rw [IntWalk.i64_quo a _ ⟨by omega, ha, by omega⟩, IntWalk.i64_quo b _ ⟨by omega, hb, by omega⟩]
      generalize a / (Nat.gcd a.toNat b.toNat : Int) = x
      generalize b / (Nat.gcd a.toNat b.toNat : Int) = y
      by_cases h3 : x > 68719476736
      · rw [br_p h3, if_pos (.inl h3)]
      · rw [br_n h3]
        by_cases h4 : y > 68719476736
        · rw [br_p h4, if_pos (.inr h4)]
        · rw [br_n h4, if_neg (by omega)]
theorem ratio_Make_ok {a b : Int} (ha : a ≤ 9223372036854775807) (hb : b ≤ 9223372036854775807) : ratio_Make a b = some (e_Ratio_I64 (mkR a b).1 (mkR a b).2) := make_gen ratio_divisor_ok ratio_Make_eq ha hb
theorem mkR_ok {a b : Int} (h : (mkR a b).2 = 0) : RatOk (mkR a b).1 ∧ (mkR a b).1.Num * b = a * (mkR a b).1.Den ∧ 1 ≤ a ∧ 1 ≤ b := by
  unfold mkR at h ⊢
  by_cases h1 : a < 1 ∨ b < 1
  · rw [if_pos h1] at h; cases h
  · rw [if_neg h1] at h ⊢
    by_cases h2 : a / Nat.gcd a.toNat b.toNat > 68719476736 ∨ b / Nat.gcd a.toNat b.toNat > 68719476736
    · rw [if_pos h2] at h; cases h
    · rw [if_neg h2]
      have hp := Nat.gcd_pos_of_pos_left b.toNat (show 0 < a.toNat by omega)
      obtain ⟨x, hx⟩ := Nat.gcd_dvd_left a.toNat b.toNat
      obtain ⟨y, hy⟩ := Nat.gcd_dvd_right a.toNat b.toNat
      have hc : Nat.gcd (a.toNat / Nat.gcd a.toNat b.toNat) (b.toNat / Nat.gcd a.toNat b.toNat) = 1 := by rw [Nat.gcd_div (Nat.gcd_dvd_left _ _) (Nat.gcd_dvd_right _ _), Nat.div_self hp]
      generalize Nat.gcd a.toNat b.toNat = g at *
      have e1 : a = (g : Int) * x := by rw [← Int.natCast_mul, ← hx]; omega
      have e2 : b = (g : Int) * y := by rw [← Int.natCast_mul, ← hy]; omega
      have d1 : a / (g : Int) = x := by rw [e1]; exact Int.mul_ediv_cancel_left _ (by omega)
      have d2 : b / (g : Int) = y := by rw [e2]; exact Int.mul_ediv_cancel_left _ (by omega)
      have d3 : a.toNat / g = x := by rw [hx]; exact Nat.mul_div_cancel_left _ hp
      have d4 : b.toNat / g = y := by rw [hy]; exact Nat.mul_div_cancel_left _ hp
      rw [d3, d4] at hc
      have p1 : 0 < x := Nat.pos_of_ne_zero fun e => by subst e; omega
      have p2 : 0 < y := Nat.pos_of_ne_zero fun e => by subst e; omega
      simp only [d1, d2] at h2 ⊢
      refine ⟨⟨by simp only; omega, by simp only; omega, by simp only; omega, by simp only; omega, by simpa using hc⟩, ?_, by omega, by omega⟩
      rw [e1, e2]
      rw [Int.mul_comm (g : Int) x, Int.mul_assoc, Int.mul_comm (g : Int) y]
def invR (r : Y.Ratio) : Y.Ratio × Int := if RatOk r then (⟨r.Den, r.Num⟩, 0) else (⟨0, 0⟩, 1)
theorem ratio_Inverse_ok (r : Y.Ratio) : ratio_Inverse r = some (e_Ratio_I64 (invR r).1 (invR r).2) := by
  rw [ratio_Inverse_eq, ratio_Valid_ok, o_B_e]
  unfold invR
  by_cases h : RatOk r
  · rw [decide_eq_true h, if_pos h]; rfl
  · rw [decide_eq_false h, if_neg h]; rfl
theorem RatOk.inv {r : Y.Ratio} (h : RatOk r) : RatOk ⟨r.Den, r.Num⟩ := ⟨h.2.1, h.1, h.2.2.2.1, h.2.2.1, by rw [Nat.gcd_comm]; exact h.2.2.2.2⟩
theorem floor_neg {u d : Nat} (hd : 0 < d) : (-(u : Int)) / d = (if u % d = 0 then -((u / d : Nat) : Int) else -((u / d : Nat) : Int) - 1) ∧ (-(u : Int)) % d = (if u % d = 0 then 0 else (d : Int) - (u % d : Nat)) := by
  have h := Nat.div_add_mod u d
  have hm := Nat.mod_lt u hd
  have hI : (d : Int) * ((u / d : Nat) : Int) + ((u % d : Nat) : Int) = u := by rw [← Int.natCast_mul, ← Int.natCast_add, h]
  generalize u / d = q at *
  generalize u % d = m at *
  by_cases h0 : m = 0
  · rw [if_pos h0, if_pos h0]
    refine (Int.ediv_emod_unique (by omega)).2 ⟨?_, by omega, by omega⟩
    rw [Int.mul_neg]; omega
  · rw [if_neg h0, if_neg h0]
    refine (Int.ediv_emod_unique (by omega)).2 ⟨?_, by omega, by omega⟩
    rw [Int.mul_sub, Int.mul_neg]; omega
theorem div_core {u nu de : Nat} (hu : u < 18446744073709551616) (h1 : 0 < nu) (h2 : 0 < de) (h3 : nu ≤ 68719476736) (h4 : de ≤ 68719476736) (K : Int → Int → Option (List D)) (x : Option (List D)) (hK : ∀ q m : Nat, q > 4611686018427387904 → K q m = x) :
    (o_U64_U64 (bits_Mul64 (u : Int) (nu : Int)) fun a b => br (decide (a ≥ (de : Int))) x (o_U64_U64 (bits_Div64 a b (de : Int)) K)) = if u * nu / de > 4611686018427387904 then x else K ((u * nu / de : Nat) : Int) ((u * nu % de : Nat) : Int) := by
  rw [Mul64_ok hu (by omega), o_U64_U64_e]
  have hdm := Nat.div_add_mod (u * nu) 18446744073709551616
  have hm := Nat.mod_lt (u * nu) (show 0 < 18446744073709551616 by decide)
  generalize u * nu / 18446744073709551616 = a at *
  generalize u * nu % 18446744073709551616 = b at *
  by_cases hc : de ≤ a
  · rw [br_p (by omega)]
    rw [if_pos]
    refine Nat.lt_of_lt_of_le (show 4611686018427387904 < 18446744073709551616 by decide) ((Nat.le_div_iff_mul_le h2).2 ?_)
    have := Nat.mul_le_mul_left 18446744073709551616 hc
    omega
  · rw [br_n (by omega), Div64_ok (by omega) hm (by omega), o_U64_U64_e]
    have e : a * 18446744073709551616 + b = u * nu := by omega
    rw [e]
    by_cases hq : u * nu / de > 4611686018427387904
    · rw [if_pos hq, hK _ _ hq]
    · rw [if_neg hq]
def flq (n : Int) (r : Y.Ratio) : Int := n * r.Num / r.Den
def flm (n : Int) (r : Y.Ratio) : Int := n * r.Num % r.Den
theorem flq_nat {r : Y.Ratio} {u nu de : Nat} (h1 : r.Num = nu) (h2 : r.Den = de) : flq u r = ((u * nu / de : Nat) : Int) ∧ flm u r = ((u * nu % de : Nat) : Int) := by
  unfold flq flm
  rw [h1, h2, mulN]
  exact ⟨rfl, rfl⟩
theorem flq_neg {r : Y.Ratio} {u nu de : Nat} (h1 : r.Num = nu) (h2 : r.Den = de) (hd : 0 < de) : flq (-(u : Int)) r = (if u * nu % de = 0 then -((u * nu / de : Nat) : Int) else -((u * nu / de : Nat) : Int) - 1) ∧ flm (-(u : Int)) r = (if u * nu % de = 0 then 0 else (de : Int) - (u * nu % de : Nat)) := by
  unfold flq flm
  rw [h1, h2, Int.neg_mul, mulN]
  exact floor_neg hd
end Go.Vm
set_option linter.unusedVariables false
set_option linter.unusedSimpArgs false
namespace Go.Vm
open Go.Proofs
def InM (f : Int) : Prop := -4611686018427387904 ≤ f ∧ f ≤ 4611686018427387904
instance (f : Int) : Decidable (InM f) := by unfold InM; infer_instance
theorem rat_nat {r : Y.Ratio} (h : RatOk r) : ∃ nu de : Nat, r.Num = nu ∧ r.Den = de ∧ 0 < nu ∧ 0 < de ∧ nu ≤ 68719476736 ∧ de ≤ 68719476736 := by
  obtain ⟨h1, h2, h3, h4, _⟩ := h
  exact ⟨r.Num.toNat, r.Den.toNat, by omega, by omega, by omega, by omega, by omega, by omega⟩
theorem ratio_divide_ok {n : Int} {r : Y.Ratio} (hr : RatOk r) (h0 : -1125899906842624 ≤ n) (h1 : n ≤ 1125899906842624) :
    ratio_divide n r = some (if InM (flq n r) ∨ (flq n r = -4611686018427387905 ∧ flm n r ≠ 0) then e_I64_I64_B (flq n r) (flm n r) true else e_I64_I64_B 0 0 false) := by
  obtain ⟨nu, de, e1, e2, p1, p2, p3, p4⟩ := rat_nat hr
  rw [ratio_divide_eq]
  rw [e1, e2, wu64N (a := nu) (by omega), wu64N (a := de) (by omega)]
  by_cases hn : n < 0
  · obtain ⟨u, rfl⟩ : ∃ u : Nat, n = -(u : Int) := ⟨(-n).toNat, by omega⟩
    have ew : IntKind.u64.wrap (0 - IntKind.u64.wrap (-(u : Int))) = (u : Int) := by simp only [wu64_mod]; omega
    obtain ⟨f1, f2⟩ := flq_neg (u := u) e1 e2 p2
    rw [br_p hn, ew, div_core (by omega) p1 p2 p3 p4 _ (some (e_I64_I64_B 0 0 false)) (fun q m h => by rw [br_p (by omega)]), f1, f2]
    have hm := Nat.mod_lt (u * nu) p2
    generalize u * nu / de = q at *
    generalize u * nu % de = m at *
    by_cases hq : q > 4611686018427387904
    · rw [if_pos hq, if_neg (fun h => by rcases h with h | h; (have := h.1; split at this <;> omega); (have h1 := h.1; have h2 := h.2; split at h1 <;> first | omega | (rename_i hm0; rw [if_pos hm0] at h2; omega)))]
    · rw [if_neg hq, br_n (by omega), br_p hn, w64 (n := (q : Int)) (by omega) (by omega), w64 (n := (m : Int)) (by omega) (by omega), w64 (n := 0 - (q : Int)) (by omega) (by omega)]
      by_cases hm0 : m = 0
      · rw [br_n (by omega), if_pos hm0, if_pos hm0, if_pos (.inl ⟨by omega, by omega⟩), Int.zero_sub, hm0]; rfl
      · rw [br_p (by omega), if_neg hm0, if_neg hm0]
        rw [if_pos, w64 (by omega) (by omega), w64 (by omega) (by omega), Int.zero_sub]
        by_cases hq2 : q = 4611686018427387904
        · exact .inr ⟨by omega, by omega⟩
        · exact .inl ⟨by omega, by omega⟩
  · obtain ⟨u, rfl⟩ : ∃ u : Nat, n = (u : Int) := ⟨n.toNat, by omega⟩
    obtain ⟨f1, f2⟩ := flq_nat (u := u) e1 e2
    rw [br_n hn, wu64N (a := u) (by omega), div_core (by omega) p1 p2 p3 p4 _ (some (e_I64_I64_B 0 0 false)) (fun q m h => by rw [br_p (by omega)]), f1, f2]
    have hm := Nat.mod_lt (u * nu) p2
    generalize u * nu / de = q at *
    generalize u * nu % de = m at *
    by_cases hq : q > 4611686018427387904
    · rw [if_pos hq, if_neg (fun h => by rcases h with h | h; (have := h.2; omega); (have := h.1; omega))]
    · rw [if_neg hq, br_n (by omega), br_n hn, if_pos (.inl ⟨by omega, by omega⟩), w64 (by omega) (by omega), w64 (by omega) (by omega)]
def flR (n : Int) (r : Y.Ratio) : Int × Int := if ¬ RatOk r then (0, 1) else if n < -1125899906842624 ∨ n > 1125899906842624 then (0, 2) else if InM (flq n r) then (flq n r, 0) else (0, 2)
def ceR (n : Int) (r : Y.Ratio) : Int × Int := if ¬ RatOk r then (0, 1) else if n < -1125899906842624 ∨ n > 1125899906842624 then (0, 2) else if InM (flq (-n) r) then (-flq (-n) r, 0) else (0, 2)
theorem ratio_check_ok (n : Int) (r : Y.Ratio) : ratio_check n r = some (e_I64 (if ¬ RatOk r then 1 else if n < -1125899906842624 ∨ n > 1125899906842624 then 2 else 0)) := by
  rw [ratio_check_eq, ratio_Valid_ok, o_B_e]
  by_cases hr : RatOk r
  · rw [decide_eq_true hr, if_neg (not_not_intro hr), Bool.not_true, br_f]
    by_cases h1 : n < -1125899906842624
    · rw [br_p h1, if_pos (.inl h1)]
    · rw [br_n h1]
      by_cases h2 : n > 1125899906842624
      · rw [br_p h2, if_pos (.inr h2)]
      · rw [br_n h2, if_neg (by omega)]
  · rw [decide_eq_false hr, if_pos hr]; rfl
theorem ce_fl {n : Int} {r : Y.Ratio} (hr : RatOk r) : -flq (-n) r = (if flm n r > 0 then flq n r + 1 else flq n r) ∧ 0 ≤ flm n r := by
  obtain ⟨nu, de, e1, e2, p1, p2, p3, p4⟩ := rat_nat hr
  unfold flq flm
  rw [e1, e2, Int.neg_mul]
  have hd := Int.mul_ediv_add_emod (n * nu) de
  have h1 := Int.emod_nonneg (n * nu) (show (de : Int) ≠ 0 by omega)
  have h2 := Int.emod_lt_of_pos (n * nu) (show (0 : Int) < de by omega)
  generalize n * (nu : Int) / de = q at *
  generalize n * (nu : Int) % de = m at *
  refine ⟨?_, h1⟩
  by_cases hm : m > 0
  · rw [if_pos hm]
    have : -(n * (nu : Int)) / de = -q - 1 := ((Int.ediv_emod_unique (r := de - m) (by omega)).2 ⟨by rw [Int.mul_sub, Int.mul_neg]; omega, by omega, by omega⟩).1
    omega
  · rw [if_neg hm]
    have : -(n * (nu : Int)) / de = -q := ((Int.ediv_emod_unique (r := 0) (by omega)).2 ⟨by rw [Int.mul_neg]; omega, by omega, by omega⟩).1
    omega
theorem ratio_Ceil_ok (n : Int) (r : Y.Ratio) : ratio_Ceil n r = some (e_I64_I64 (ceR n r).1 (ceR n r).2) := by
  rw [ratio_Ceil_eq, ratio_check_ok, o_I64_e]
  unfold ceR
  by_cases hr : RatOk r
  · rw [if_neg (not_not_intro hr), if_neg (not_not_intro hr)]
    by_cases h1 : n < -1125899906842624 ∨ n > 1125899906842624
    · rw [if_pos h1, if_pos h1]; rfl
    · rw [if_neg h1, if_neg h1, br_eq' (by rfl), ratio_divide_ok hr (by omega) (by omega)]
      obtain ⟨c1, c2⟩ := ce_fl (n := n) hr
      rw [c1]
      generalize flq n r = f at *
      generalize flm n r = m at *
      by_cases h3 : InM f ∨ (f = -4611686018427387905 ∧ m ≠ 0)
      · rw [if_pos h3, o_I64_I64_B_e, br_t]
        by_cases hm : m > 0
        · rw [br_p hm, if_pos hm, Bool.not_true, br_f]
          have hf : -4611686018427387905 ≤ f ∧ f ≤ 4611686018427387904 := by rcases h3 with ⟨a, b⟩ | ⟨a, b⟩ <;> omega
          rw [w64 (by omega) (by omega), br_n (by omega)]
          by_cases h4 : f + 1 > 4611686018427387904
          · rw [br_p h4, if_neg (fun h : InM _ => by have := h.1; omega)]
          · rw [br_n h4, if_pos]
            exact ⟨by omega, by omega⟩
        · rw [br_n hm, if_neg hm, Bool.not_true, br_f]
          have hf : InM f := h3.resolve_right (by omega)
          rw [br_n (by have := hf.1; omega), br_n (by have := hf.2; omega), if_pos]
          have := hf.1; have := hf.2
          exact ⟨by omega, by omega⟩
      · rw [if_neg h3, o_I64_I64_B_e, br_f, Bool.not_false, br_t, if_neg]
        intro h
        have h1 := h.1; have h2 := h.2
        apply h3
        by_cases hm : m > 0
        · rw [if_pos hm] at c1
          by_cases h5 : f = -4611686018427387905
          · exact .inr ⟨h5, by omega⟩
          · exact .inl ⟨by omega, by omega⟩
        · rw [if_neg hm] at c1
          exact .inl ⟨by omega, by omega⟩
  · rw [if_pos hr, if_pos hr]; rfl
end Go.Vm
set_option linter.unusedVariables false
set_option linter.unusedSimpArgs false
namespace Go.Vm
open Go.Proofs
theorem getD_map {β : Type} (enc : β → List D) (ss : List β) {i : Nat} (h : i < ss.length) : (ss.map enc).getD i [] = enc ss[i] := by
  rw [List.getD_eq_getElem?_getD, List.getElem?_map, List.getElem?_eq_getElem h]
  rfl
theorem inB_lt {k : Nat} {n : Nat} (h : k < n) : inB (k : Int) n = true := inB_nat h
theorem toNatN (k : Nat) : ((k : Int)).toNat = k := rfl
def RateOk (r : Y.Ratio) : Prop := RatOk r ∧ r.Den ≤ r.Num * 1024 ∧ r.Num ≤ r.Den * 1024
instance (r : Y.Ratio) : Decidable (RateOk r) := by unfold RateOk; infer_instance
theorem clock_usual_ok (r : Y.Ratio) : clock_usual r = some (e_B (decide (RateOk r))) := by
  rw [clock_usual_eq, ratio_Valid_ok, o_B_e]
  by_cases hr : RatOk r
  · obtain ⟨h1, h2, h3, h4, _⟩ := id hr
    rw [decide_eq_true hr, br_t, w64 (by omega) (by omega), w64 (by omega) (by omega)]
    by_cases c1 : r.Den ≤ r.Num * 1024
    · rw [br_p (by omega)]
      congr 3
      exact propext ⟨fun h => ⟨hr, c1, h⟩, fun h => h.2.2⟩
    · rw [br_n (by omega), decide_eq_false (p := RateOk r) fun h => c1 h.2.1]
  · rw [decide_eq_false hr, br_f, decide_eq_false (p := RateOk r) fun h => hr h.1]
end Go.Vm
set_option linter.unusedVariables false
set_option linter.unusedSimpArgs false
namespace Go.Vm
open Go.Proofs
def segB : Option Int → List Y.Segment → Bool
  | _, [] => true
  | none, s :: ss => decide (RateOk s.Rate) && (decide (s.From ≤ 1099511627776) && (decide (s.From = 0) && segB (some s.From) ss))
  | some p, s :: ss => decide (RateOk s.Rate) && (decide (s.From ≤ 1099511627776) && (decide (p < s.From) && segB (some s.From) ss))
def clockB (ss : List Y.Segment) : Bool := segB none ss && decide (1 ≤ ss.length ∧ ss.length ≤ 64)
theorem len_test (n : Nat) : br (decide ((n : Int) ≥ 1)) (some (e_B (decide ((n : Int) ≤ 64)))) (some (e_B false)) = some (e_B (decide (1 ≤ n ∧ n ≤ 64))) := by
  by_cases h : 1 ≤ n
  · rw [br_p (by omega)]
    congr 3
    exact propext ⟨fun h' => ⟨h, by omega⟩, fun h' => by omega⟩
  · rw [br_n (by omega), decide_eq_false (p := 1 ≤ n ∧ n ≤ 64) (by omega)]
theorem clock_Valid_loop (ss : List Y.Segment) (hl : ss.length < 4611686018427387904) : ∀ (m i : Nat) (h1 : 1 ≤ i) (hi : i ≤ ss.length), ss.length - i = m → clock_Valid_k104 (ss.map Y.Segment.enc) ss.length i ⟨ss.map Y.Segment.enc⟩ = some (e_B (segB (some (ss[i - 1]'(by omega)).From) (ss.drop i) && decide (1 ≤ ss.length ∧ ss.length ≤ 64))) := by
  intro m
  induction m with
  | zero =>
    intro i h1 hi hm
    rw [clock_Valid_k104_eq, br_n (by omega), List.length_map, len_test, List.drop_of_length_le (by omega)]
    rfl
  | succ m ih =>
    intro i h1 hi hm
    have hlt : i < ss.length := by omega
    rw [clock_Valid_k104_eq, br_p (by omega), List.length_map, inB_lt hlt, br_t, toNatN, getD_map _ _ hlt, Y.Segment.get_enc, clock_usual_ok, o_B_e, List.drop_eq_getElem_cons hlt]
    unfold segB
    by_cases c1 : RateOk ss[i].Rate
    · rw [decide_eq_true c1, Bool.not_true, br_f, Bool.true_and]
      by_cases c2 : ss[i].From ≤ 1099511627776
      · rw [br_n (by omega), br_ne (by omega), br_p (by omega), w64 (by omega) (by omega), show ((i : Int) - 1) = ((i - 1 : Nat) : Int) by omega, inB_lt (show i - 1 < ss.length by omega), br_t, toNatN, getD_map _ _ (by omega), Y.Segment.get_enc, decide_eq_true c2, Bool.true_and]
        by_cases c3 : (ss[i - 1]'(by omega)).From < ss[i].From
        · rw [br_n (by omega), decide_eq_true c3, Bool.true_and, w64 (by omega) (by omega)]
          exact ih (i + 1) (by omega) (by omega) (by omega)
        · rw [br_p (by omega), decide_eq_false c3]; rfl
      · rw [br_p (by omega), decide_eq_false c2]; rfl
    · rw [decide_eq_false c1]; rfl
theorem clock_Valid_ok (ss : List Y.Segment) (hl : ss.length < 4611686018427387904) : clock_Valid ⟨ss.map Y.Segment.enc⟩ = some (e_B (clockB ss)) := by
  rw [clock_Valid_eq]
  cases ss with
  | nil => rw [clock_Valid_k104_eq]; rfl
  | cons s ss =>
    rw [clock_Valid_k104_eq, List.length_map]
    have hp : (0 : Nat) < (s :: ss).length := by simp
    rw [br_p (by omega), show (0 : Int) = ((0 : Nat) : Int) from rfl, inB_lt hp, br_t, toNatN, getD_map _ _ hp, Y.Segment.get_enc, List.getElem_cons_zero, clock_usual_ok, o_B_e]
    unfold clockB segB
    by_cases c1 : RateOk s.Rate
    · rw [decide_eq_true c1, Bool.not_true, br_f, Bool.true_and]
      by_cases c2 : s.From ≤ 1099511627776
      · rw [br_n (by omega), br_eq (by rfl), decide_eq_true c2, Bool.true_and]
        by_cases c3 : s.From = 0
        · rw [br_eq' (by omega), br_n (by omega), decide_eq_true c3, Bool.true_and, w64 (by omega) (by omega)]
          exact clock_Valid_loop (s :: ss) hl _ 1 (by omega) (by simp) rfl
        · rw [br_ne' (by omega), decide_eq_false c3]; rfl
      · rw [br_p (by omega), decide_eq_false c2]; rfl
    · rw [decide_eq_false c1]; rfl
end Go.Vm
set_option linter.unusedVariables false
set_option linter.unusedSimpArgs false
namespace Go.Vm
open Go.Proofs
theorem andB (b c : Bool) : br b (some (e_B c)) (some (e_B false)) = some (e_B (b && c)) := by cases b <;> rfl
def phaseB (p : Y.Phase) : Bool := decide (RatOk p.Base) && (decide (p.Base.Num ≤ 768000) && (decide (p.Base.Den ≤ 768000) && (decide (p.Adjust ≥ -4096) && (decide (p.Adjust ≤ 4096) && (decide (p.Pos ≥ 0) && (decide (p.Pos ≤ 1125899906842624) && (decide (p.Frac ≥ 0) && decide (p.Frac < p.Base.Den * 65536))))))))
theorem parts_w {p : Y.Phase} (h1 : RatOk p.Base) : IntKind.i64.wrap (p.Base.Den * 65536) = p.Base.Den * 65536 := by
  obtain ⟨_, h2, _, h4, _⟩ := h1
  exact w64 (by omega) (by omega)
theorem phase_gen {x : Y.Phase} (f : Bool) (hf : RatOk x.Base → f = decide (x.Frac < x.Base.Den * 65536)) : some (e_B (decide (RatOk x.Base) && (decide (x.Base.Num ≤ 768000) && (decide (x.Base.Den ≤ 768000) && (decide (x.Adjust ≥ -4096) && (decide (x.Adjust ≤ 4096) && (decide (x.Pos ≥ 0) && (decide (x.Pos ≤ 1125899906842624) && (decide (x.Frac ≥ 0) && f))))))))) = some (e_B (phaseB x)) := by
  unfold phaseB
  by_cases h : RatOk x.Base
  · rw [hf h]
  · rw [decide_eq_false h]; rfl
theorem ref14_Valid_ok (x : Y.Phase) : ref14_Valid x = some (e_B (phaseB x)) := by
  rw [ref14_Valid_eq, ref03_Valid_ok, o_B_e, ref14_Parts_eq, o_I64_e]
  simp only [andB]
  exact phase_gen _ fun h => by rw [parts_w h]
theorem phase_Valid_ok (x : Y.Phase) : phase_Valid x = some (e_B (phaseB x)) := by
  rw [phase_Valid_eq, ratio_Valid_ok, o_B_e, phase_tuned_eq, phase_parts_eq, o_I64_e]
  simp only [andB, o_B_e, Bool.and_assoc]
  exact phase_gen _ fun h => by rw [parts_w h]
def i32D (n : Int) : List D := [.int .i32 n]
def smpB (n : Int) : Bool := decide (n ≥ -8388608) && decide (n ≤ 8388607)
theorem ref04_sample_ok (n : Int) : ref04_sample n = some (e_B (smpB n)) := by rw [ref04_sample_eq, andB]; rfl
theorem sample_is_ok (n : Int) : sample_is n = some (e_B (smpB n)) := by rw [sample_is_eq, andB]; rfl
theorem smp_loop {f : List (List D) → Int → Int → Option (List D)} {g : Int → Option (List D)} (hg : ∀ n, g n = some (e_B (smpB n)))
    (hf : ∀ l0 n1 n2, f l0 n1 n2 = br (decide (n2 < n1)) (br (inB n2 l0.length) (gI IntKind.i32 (l0.getD n2.toNat []) fun n1_1 => o_B (g n1_1) fun b2 => br (!b2) (some (e_B false)) (f l0 n1 (IntKind.i64.wrap (n2 + 1)))) none) (some (e_B true)))
    (ss : List Int) (hl : ss.length < 4611686018427387904) : ∀ (m i : Nat) (hi : i ≤ ss.length), ss.length - i = m → f (ss.map i32D) ss.length i = some (e_B ((ss.drop i).all smpB)) := by
  intro m
  induction m with
  | zero =>
    intro i hi hm
    rw [hf, br_n (by omega), List.drop_of_length_le (by omega)]
    rfl
  | succ m ih =>
    intro i hi hm
    have hlt : i < ss.length := by omega
    rw [hf, br_p (by omega), List.length_map, inB_lt hlt, br_t, toNatN, getD_map _ _ hlt, i32D, gI_e, hg, o_B_e, List.drop_eq_getElem_cons hlt, List.all_cons, w64 (by omega) (by omega)]
    cases smpB ss[i] with
    | false => rfl
    | true => exact ih (i + 1) (by omega) (by omega)
def blockB (c : Int) (ss : List Int) : Bool := decide (1 ≤ c ∧ c ≤ 8 ∧ ss.length % c.toNat = 0 ∧ ss.length / c.toNat ≤ 65536) && ss.all smpB
theorem block_gen {f : Y.Block → Option (List D)} {k : List (List D) → Int → Int → Option (List D)} (ss : List Int) (hk : k (ss.map i32D) ss.length 0 = some (e_B (ss.all smpB)))
    (hf : ∀ a : Y.Block, f a = br (decide (a.Channels < 1)) (some (e_B false)) (br (decide (a.Channels > 8)) (some (e_B false)) (br (decide (a.Channels = 0)) none (br ((↑a.Data.length : Int).tmod a.Channels != 0) (some (e_B false)) (br (decide (a.Channels = 0)) none (br (decide (IntKind.i64.wrap ((↑a.Data.length : Int).tdiv a.Channels) > 65536)) (some (e_B false)) (k a.Data (↑a.Data.length : Int) 0)))))))
    (c : Int) (hl : ss.length < 4611686018427387904) : f ⟨c, ss.map i32D⟩ = some (e_B (blockB c ss)) := by
  rw [hf]
  unfold blockB
  by_cases h1 : c < 1
  · rw [br_p h1, decide_eq_false (by omega)]; rfl
  · by_cases h2 : c > 8
    · rw [br_n h1, br_p h2, decide_eq_false (by omega)]; rfl
    · obtain ⟨q, rfl⟩ : ∃ q : Nat, c = (q : Int) := ⟨c.toNat, by omega⟩
      have hq0 : ¬ ((q : Int) = 0) := by omega
      have hz := Int.natCast_nonneg (ss.length / q)
      rw [br_n h1, br_n h2, br_n hq0, List.length_map, tmodN, toNatN]
      by_cases h3 : ss.length % q = 0
      · have hd := Nat.div_le_self ss.length q
        rw [br_eq' (by rw [h3]; rfl), br_n hq0, tdivN, w64 (by omega) (by omega)]
        by_cases h4 : ss.length / q > 65536
        · rw [br_p (by omega), decide_eq_false (fun h => by have := h.2.2.2; omega)]; rfl
        · rw [br_n (by omega), hk, decide_eq_true ⟨by omega, by omega, h3, by omega⟩]; rfl
      · rw [br_ne' (by omega), decide_eq_false (fun h => h3 h.2.2.1)]; rfl
theorem ref04_Valid_ok (c : Int) (ss : List Int) (hl : ss.length < 4611686018427387904) : ref04_Valid ⟨c, ss.map i32D⟩ = some (e_B (blockB c ss)) :=
  block_gen ss (smp_loop ref04_sample_ok ref04_Valid_k232_eq ss hl _ 0 (by omega) rfl) ref04_Valid_eq c hl
theorem sample_Valid_ok (c : Int) (ss : List Int) (hl : ss.length < 4611686018427387904) : sample_Valid ⟨c, ss.map i32D⟩ = some (e_B (blockB c ss)) :=
  block_gen ss (smp_loop sample_is_ok sample_Valid_k232_eq ss hl _ 0 (by omega) rfl) sample_Valid_eq c hl
def resB (r : Y.Resampler) (ss : List Int) : Bool := phaseB r.Phase && blockB r.Channels ss
theorem ref15_Valid_ok {r : Y.Resampler} {ss : List Int} (hs : r.Rest = ss.map i32D) (hl : ss.length < 4611686018427387904) : ref15_Valid r = some (e_B (resB r ss)) := by
  rw [ref15_Valid_eq, ref14_Valid_ok, o_B_e, ref15_block_eq, o_Block_e, hs, ref04_Valid_ok _ _ hl, o_B_e, andB]; rfl
theorem resample_Valid_ok {r : Y.Resampler} {ss : List Int} (hs : r.Rest = ss.map i32D) (hl : ss.length < 4611686018427387904) : resample_Valid r = some (e_B (resB r ss)) := by
  rw [resample_Valid_eq, phase_Valid_ok, o_B_e, resample_rest_eq, o_Block_e, hs, sample_Valid_ok _ _ hl, o_B_e, andB]; rfl
def waitR (r : Y.Resampler) (ss : List Int) : Int := if resB r ss then ((ss.length / r.Channels.toNat : Nat) : Int) else 0
theorem resB_ch {r : Y.Resampler} {ss : List Int} (h : resB r ss = true) : 1 ≤ r.Channels ∧ r.Channels ≤ 8 ∧ ss.length % r.Channels.toNat = 0 ∧ ss.length / r.Channels.toNat ≤ 65536 := by
  unfold resB blockB at h
  simp only [Bool.and_eq_true, decide_eq_true_eq] at h
  exact h.2.1
theorem wait_gen {r : Y.Resampler} {ss : List Int} (hs : r.Rest = ss.map i32D) (hl : ss.length < 4611686018427387904) :
    (br (!resB r ss) (some (e_I64 0)) (br (decide (r.Channels = 0)) none (some (e_I64 (IntKind.i64.wrap ((↑r.Rest.length : Int).tdiv r.Channels)))))) = some (e_I64 (waitR r ss)) := by
  unfold waitR
  cases h : resB r ss with
  | false => rfl
  | true =>
    obtain ⟨h1, h2, _, _⟩ := resB_ch h
    rw [Bool.not_true, br_f, br_n (by omega), if_pos rfl, hs, List.length_map]
    obtain ⟨q, hq⟩ : ∃ q : Nat, r.Channels = (q : Int) := ⟨r.Channels.toNat, by omega⟩
    have hd := Nat.div_le_self ss.length q
    have hz := Int.natCast_nonneg (ss.length / q)
    rw [hq, tdivN, w64 (by omega) (by omega), toNatN]
theorem ref15_Waiting_ok {r : Y.Resampler} {ss : List Int} (hs : r.Rest = ss.map i32D) (hl : ss.length < 4611686018427387904) : ref15_Waiting r = some (e_I64 (waitR r ss)) := by
  rw [ref15_Waiting_eq, ref15_Valid_ok hs hl, o_B_e]; exact wait_gen hs hl
theorem resample_Waiting_ok {r : Y.Resampler} {ss : List Int} (hs : r.Rest = ss.map i32D) (hl : ss.length < 4611686018427387904) : resample_Waiting r = some (e_I64 (waitR r ss)) := by
  rw [resample_Waiting_eq, resample_Valid_ok hs hl, o_B_e]; exact wait_gen hs hl
def ctlB (a : Y.Control) : Bool := decide (a.Target ≥ 0) && (decide (a.Target ≤ 65536) && (decide (a.Dead ≥ 0) && (decide (a.Dead ≤ 65536) && (decide (a.Gain ≥ 1) && (decide (a.Gain ≤ 4096) && (decide (a.Most ≥ 0) && decide (a.Most ≤ 4096)))))))
theorem ref18_Valid_ok (a : Y.Control) : ref18_Valid a = some (e_B (ctlB a)) := by rw [ref18_Valid_eq]; simp only [andB]; rfl
theorem control_Valid_ok (a : Y.Control) : control_Valid a = some (e_B (ctlB a)) := by rw [control_Valid_eq]; simp only [andB]; rfl
def bridgeB (b : Y.Bridge) (ss : List Int) : Bool := resB b.Resample ss && (ctlB b.Control && (decide (b.Capacity ≥ 1) && (decide (b.Capacity ≤ 65536) && (decide (waitR b.Resample ss ≤ b.Capacity) && (decide (b.Lost ≥ 0) && decide (b.Missed ≥ 0))))))
theorem ref19_Valid_ok {b : Y.Bridge} {ss : List Int} (hs : b.Resample.Rest = ss.map i32D) (hl : ss.length < 4611686018427387904) : ref19_Valid b = some (e_B (bridgeB b ss)) := by
  rw [ref19_Valid_eq, ref15_Valid_ok hs hl, o_B_e, ref18_Valid_ok, o_B_e, ref15_Waiting_ok hs hl, o_I64_e]; simp only [andB]; rfl
theorem bridge_Valid_ok {b : Y.Bridge} {ss : List Int} (hs : b.Resample.Rest = ss.map i32D) (hl : ss.length < 4611686018427387904) : bridge_Valid b = some (e_B (bridgeB b ss)) := by
  rw [bridge_Valid_eq, resample_Valid_ok hs hl, o_B_e, control_Valid_ok, o_B_e, resample_Waiting_ok hs hl, o_I64_e]; simp only [andB]; rfl
end Go.Vm
set_option linter.unusedVariables false
set_option linter.unusedSimpArgs false
namespace Go.Vm
open Go.Proofs
def goR {β α : Type} (step : Nat → β → Option α → Option α) (E : Option α) : Nat → List β → Option α
  | _, [] => E
  | i, s :: ss => step i s (goR step E (i + 1) ss)
theorem range_loop {β α : Type} (enc : β → List D) (ss : List β) (hl : ss.length < 4611686018427387904) {F : Int → Option α} (step : Nat → β → Option α → Option α) (E : Option α) (body : Nat → Option α)
    (hF : ∀ i : Nat, F i = br (decide ((i : Int) < (ss.length : Nat))) (br (inB (i : Int) (ss.map enc).length) (body i) none) E)
    (hs : ∀ (i : Nat) (h : i < ss.length), (ss.map enc).getD i [] = enc ss[i] → IntKind.i64.wrap ((i : Int) + 1) = ((i + 1 : Nat) : Int) → body i = step i ss[i] (F ((i + 1 : Nat) : Int))) :
    ∀ i : Nat, i ≤ ss.length → F i = goR step E i (ss.drop i) := by
  have main : ∀ (m i : Nat), i ≤ ss.length → ss.length - i = m → F i = goR step E i (ss.drop i) := by
    intro m
    induction m with
    | zero =>
      intro i hi hm
      rw [hF, br_n (by omega), List.drop_of_length_le (by omega)]
      rfl
    | succ m ih =>
      intro i hi hm
      have hlt : i < ss.length := by omega
      rw [hF, br_p (by omega), inB_lt (by rw [List.length_map]; exact hlt), br_t, hs i hlt (getD_map enc ss hlt) (by rw [w64 (by omega) (by omega)]; omega), ih (i + 1) (by omega) (by omega), List.drop_eq_getElem_cons hlt]
      rfl
  exact fun i hi => main _ i hi rfl
theorem range_all {β α : Type} (enc : β → List D) (ss : List β) (hl : ss.length < 4611686018427387904) {F : Int → Option α} (step : Nat → β → Option α → Option α) (E : Option α) (body : Nat → Option α)
    (hF : ∀ i : Nat, F i = br (decide ((i : Int) < (ss.length : Nat))) (br (inB (i : Int) (ss.map enc).length) (body i) none) E)
    (hs : ∀ (i : Nat) (h : i < ss.length), (ss.map enc).getD i [] = enc ss[i] → IntKind.i64.wrap ((i : Int) + 1) = ((i + 1 : Nat) : Int) → body i = step i ss[i] (F ((i + 1 : Nat) : Int))) :
    F 0 = goR step E 0 ss := range_loop enc ss hl step E body hF hs 0 (Nat.zero_le _)
def inSpan (n : Int) (s : Y.Span) : Bool := decide (s.Lo ≤ n) && decide (n ≤ s.Hi)
end Go.Vm
set_option linter.unusedVariables false
set_option linter.unusedSimpArgs false
namespace Go.Vm
open Go.Proofs
def spanB (s : Y.Span) : Bool := decide (0 ≤ s.Lo) && (decide (s.Lo ≤ s.Hi) && decide (s.Hi ≤ 2147483647))
def spansB : Option Int → List Y.Span → Bool
  | _, [] => true
  | none, s :: ss => spanB s && spansB (some s.Hi) ss
  | some p, s :: ss => spanB s && (decide (p + 1 < s.Lo) && spansB (some s.Hi) ss)
def setB (ss : List Y.Span) : Bool := spansB none ss && decide (ss.length ≤ 64)
theorem intset_fine_ok (s : Y.Span) : intset_fine s = some (e_B (spanB s)) := by rw [intset_fine_eq]; simp only [andB]; rfl
theorem spanB_rng {s : Y.Span} (h : spanB s = true) : 0 ≤ s.Lo ∧ s.Lo ≤ s.Hi ∧ s.Hi ≤ 2147483647 := by
  unfold spanB at h
  simpa only [Bool.and_eq_true, decide_eq_true_eq] using h
theorem len64 (n : Nat) : some (e_B (decide ((n : Int) ≤ 64))) = some (e_B (decide (n ≤ 64))) := by
  congr 3
  exact propext ⟨fun h => by omega, fun h => by omega⟩
theorem intset_Valid_loop (ss : List Y.Span) (hl : ss.length < 4611686018427387904) : ∀ (m i : Nat) (h1 : 1 ≤ i) (hi : i ≤ ss.length), ss.length - i = m → spanB (ss[i - 1]'(by omega)) = true → intset_Valid_k104 (ss.map Y.Span.enc) ss.length i ⟨ss.map Y.Span.enc⟩ = some (e_B (spansB (some (ss[i - 1]'(by omega)).Hi) (ss.drop i) && decide (ss.length ≤ 64))) := by
  intro m
  induction m with
  | zero =>
    intro i h1 hi hm hp
    rw [intset_Valid_k104_eq, br_n (by omega), List.length_map, len64, List.drop_of_length_le (by omega)]
    rfl
  | succ m ih =>
    intro i h1 hi hm hp
    have hlt : i < ss.length := by omega
    rw [intset_Valid_k104_eq, br_p (by omega), List.length_map, inB_lt hlt, br_t, toNatN, getD_map _ _ hlt, Y.Span.get_enc, intset_fine_ok, o_B_e, List.drop_eq_getElem_cons hlt]
    unfold spansB
    cases c1 : spanB ss[i] with
    | false => rfl
    | true =>
      obtain ⟨a1, a2, a3⟩ := spanB_rng hp
      rw [Bool.not_true, br_f, Bool.true_and, br_p (by omega), w64 (by omega) (by omega), show ((i : Int) - 1) = ((i - 1 : Nat) : Int) by omega, inB_lt (show i - 1 < ss.length by omega), br_t, toNatN, getD_map _ _ (by omega), Y.Span.get_enc, w64 (by omega) (by omega)]
      by_cases c3 : (ss[i - 1]'(by omega)).Hi + 1 < ss[i].Lo
      · rw [br_n (by omega), decide_eq_true c3, Bool.true_and, w64 (by omega) (by omega)]
        exact ih (i + 1) (by omega) (by omega) (by omega) c1
      · rw [br_p (by omega), decide_eq_false c3]; rfl
theorem intset_Valid_ok (ss : List Y.Span) (hl : ss.length < 4611686018427387904) : intset_Valid ⟨ss.map Y.Span.enc⟩ = some (e_B (setB ss)) := by
  rw [intset_Valid_eq]
  cases ss with
  | nil => rw [intset_Valid_k104_eq]; rfl
  | cons s ss =>
    rw [intset_Valid_k104_eq, List.length_map]
    have hp : (0 : Nat) < (s :: ss).length := by simp
    rw [br_p (by omega), show (0 : Int) = ((0 : Nat) : Int) from rfl, inB_lt hp, br_t, toNatN, getD_map _ _ hp, Y.Span.get_enc, List.getElem_cons_zero, intset_fine_ok, o_B_e]
    unfold setB spansB
    cases c1 : spanB s with
    | false => rfl
    | true =>
      rw [Bool.not_true, br_f, Bool.true_and, br_n (by omega), w64 (by omega) (by omega)]
      exact intset_Valid_loop (s :: ss) hl _ 1 (by omega) (by simp) rfl c1
def hasB (ss : List Y.Span) (n : Int) : Bool := setB ss && ss.any (inSpan n)
theorem intset_Has_loop (n : Int) (ss : List Y.Span) (hl : ss.length < 4611686018427387904) : ∃ k : Int, slices_IndexFunc_G__intset_Has_1_k104 (ss.map Y.Span.enc) ss.length 0 n = some (e_I64_I64 k n) ∧ (k ≥ 0 ↔ ss.any (inSpan n) = true) := by
  have h : slices_IndexFunc_G__intset_Has_1_k104 (ss.map Y.Span.enc) ss.length 0 n = goR (fun i s k => if inSpan n s then some (e_I64_I64 i n) else k) (some (e_I64_I64 (-1) n)) 0 ss :=
    range_all (F := fun i => slices_IndexFunc_G__intset_Has_1_k104 (ss.map Y.Span.enc) ss.length i n) Y.Span.enc ss hl _ _ _ (fun i => slices_IndexFunc_G__intset_Has_1_k104_eq _ _ _ _) (fun i h e1 e2 => by
      rw [toNatN, e1, Y.Span.get_enc, e2, intset_Has_1_eq]
      unfold inSpan
      by_cases c1 : ss[i].Lo ≤ n
      · rw [br_p c1, o_B_I64_e, decide_eq_true c1, Bool.true_and, br_ite]
      · rw [br_n c1, o_B_I64_e, decide_eq_false c1]; rfl)
  rw [h]
  have main : ∀ (ss : List Y.Span) (i : Nat), ∃ k : Int, goR (fun i s k => if inSpan n s then some (e_I64_I64 i n) else k) (some (e_I64_I64 (-1) n)) i ss = some (e_I64_I64 k n) ∧ (k ≥ 0 ↔ ss.any (inSpan n) = true) := by
    intro ss
    induction ss with
    | nil => intro i; exact ⟨-1, rfl, by simp⟩
    | cons s ss ih =>
      intro i
      simp only [goR, List.any_cons]
      cases inSpan n s with
      | true => exact ⟨i, rfl, by simp⟩
      | false => simpa using ih (i + 1)
  exact main ss 0
theorem intset_Has_ok (ss : List Y.Span) (hl : ss.length < 4611686018427387904) (n : Int) : intset_Has ⟨ss.map Y.Span.enc⟩ n = some (e_B (hasB ss n)) := by
  have key : ∀ ss : List Y.Span, ss.length < 4611686018427387904 → (o_B_I64 (slices_ContainsFunc_G__intset_Has_1 (ss.map Y.Span.enc) n) fun b2 n3 => some (e_B b2)) = some (e_B (ss.any (inSpan n))) := fun ss hl => by
    obtain ⟨k, h1, h2⟩ := intset_Has_loop n ss hl
    rw [slices_ContainsFunc_G__intset_Has_1_eq, slices_IndexFunc_G__intset_Has_1_eq, List.length_map, h1, o_I64_I64_e, o_B_I64_e]
    congr 2
    rw [Bool.eq_iff_iff, decide_eq_true_eq, h2]
  rw [intset_Has_eq, intset_spans_eq, intset_Valid_ok ss hl, o_B_e]
  unfold hasB
  cases setB ss with
  | false => exact key [] (by simp)
  | true => rw [Bool.not_true, br_f, o_L2_e, key ss hl]; rfl
end Go.Vm
set_option linter.unusedVariables false
set_option linter.unusedSimpArgs false
namespace Go.Vm
open Go.Proofs
def allI {β : Type} (p : Nat → β → Bool) : Nat → List β → Bool
  | _, [] => true
  | i, s :: ss => p i s && allI p (i + 1) ss
theorem goR_allI {β : Type} (p : Nat → β → Bool) (E : Option (List D)) (e : Bool) (hE : E = some (e_B e)) : ∀ (ss : List β) (i : Nat), goR (fun i s k => if p i s then k else some (e_B false)) E i ss = some (e_B (allI p i ss && e))
  | [], i => by rw [hE]; rfl
  | s :: ss, i => by
    simp only [goR, allI]
    cases p i s with
    | false => rfl
    | true => simpa using goR_allI p E e hE ss (i + 1)
def i64D (n : Int) : List D := [.int .i64 n]
def mpD (m : List Int) : List (List D) := m.map i64D
theorem len_ne (a b : Nat) (x y : Option (List D)) : br ((a : Int) != (b : Int)) x y = if a = b then y else x := by
  by_cases h : a = b
  · rw [br_eq' (by omega), if_pos h]
  · rw [br_ne' (by omega), if_neg h]
theorem same_loop {f : List (List D) → List (List D) → Int → Int → Option (List D)}
    (hf : ∀ l0 l1 n2 n3, f l0 l1 n2 n3 = br (decide (n3 < n2)) (br (inB n3 l0.length) (gI IntKind.i64 (l0.getD n3.toNat []) fun n1 => br (inB n3 l1.length) (gI IntKind.i64 (l1.getD n3.toNat []) fun n2_1 => br (n1 != n2_1) (some (e_B false)) (f l0 l1 n2 (IntKind.i64.wrap (n3 + 1)))) none) none) (some (e_B true)))
    (a b : List Int) (hl : a.length < 4611686018427387904) (he : a.length = b.length) : f (mpD a) (mpD b) a.length 0 = some (e_B (decide (a = b))) := by
  have h := range_all (F := fun i => f (mpD a) (mpD b) a.length i) i64D a hl (fun i s k => if decide (b[i]? = some s) then k else some (e_B false)) (some (e_B true)) _ (fun i => hf _ _ _ _) (fun i h e1 e2 => by
    have hb : i < b.length := by omega
    rw [toNatN, show (mpD a).getD i [] = i64D a[i] from e1, i64D, gI_e, show (mpD b).length = b.length from List.length_map _, inB_lt hb, br_t, show (mpD b).getD i [] = i64D b[i] from getD_map _ _ hb, i64D, gI_e, e2]
    by_cases c : a[i] = b[i]
    · rw [br_eq' c, if_pos (by rw [List.getElem?_eq_getElem hb, c]; simp)]
    · rw [br_ne' c, if_neg (by rw [List.getElem?_eq_getElem hb]; simpa using fun e => c e.symm)])
  rw [h, goR_allI _ _ true rfl]
  have main : ∀ (a b pre : List Int), a.length = b.length → (allI (fun i s => decide ((pre ++ b)[i]? = some s)) pre.length a && true) = decide (a = b) := by
    intro a
    induction a with
    | nil => intro b pre hb; cases b with
      | nil => rfl
      | cons => cases hb
    | cons x a ih =>
      intro b pre hb
      cases b with
      | nil => cases hb
      | cons y b =>
        simp only [allI, Bool.and_true, List.getElem?_append_right (Nat.le_refl _), Nat.sub_self, List.getElem?_cons_zero, Option.some.injEq]
        have := ih b (pre ++ [y]) (by simpa using hb)
        rw [List.append_assoc, List.singleton_append, List.length_append, List.length_singleton, Bool.and_true] at this
        rw [this, Bool.eq_iff_iff]
        simp only [Bool.and_eq_true, decide_eq_true_eq, List.cons.injEq]
        exact ⟨fun h => ⟨h.1.symm, h.2⟩, fun h => ⟨h.1.symm, h.2⟩⟩
  have := main a b [] he
  rw [List.nil_append, List.length_nil] at this
  rw [this]
theorem channels_Same_ok (a b : List Int) (hl : a.length < 4611686018427387904) : channels_Same (mpD a) (mpD b) = some (e_B (decide (a = b))) := by
  rw [channels_Same_eq, slices_Equal_G_int_int_eq, show (mpD a).length = a.length from List.length_map _, show (mpD b).length = b.length from List.length_map _, len_ne]
  by_cases h : a.length = b.length
  · rw [if_pos h, same_loop slices_Equal_G_int_int_k232_eq a b hl h, o_B_e]
  · rw [if_neg h, decide_eq_false fun e => h (by rw [e])]; rfl
def fstI (v : Int) : Nat → List Int → Int
  | _, [] => -1
  | i, s :: ss => if s = v then i else fstI v (i + 1) ss
theorem fstI_mem (v : Int) : ∀ (ss : List Int) (i : Nat), (fstI v i ss ≥ 0 ↔ v ∈ ss)
  | [], i => by simp [fstI]
  | s :: ss, i => by
    unfold fstI
    by_cases c : s = v
    · rw [if_pos c]; exact ⟨fun _ => by simp [c], fun _ => by omega⟩
    · rw [if_neg c, fstI_mem v ss (i + 1), List.mem_cons]
      exact ⟨.inr, fun h => h.resolve_left fun e => c e.symm⟩
theorem goR_fst (v : Int) : ∀ (ss : List Int) (i : Nat), goR (fun i s k => if s = v then some (e_I64 ((i : Nat) : Int)) else k) (some (e_I64 (-1))) i ss = some (e_I64 (fstI v i ss))
  | [], i => rfl
  | s :: ss, i => by
    simp only [goR, fstI]
    by_cases c : s = v
    · rw [if_pos c, if_pos c]
    · rw [if_neg c, if_neg c]; exact goR_fst v ss (i + 1)
theorem slices_Contains_ok (a : List Int) (hl : a.length < 4611686018427387904) (v : Int) : slices_Contains_G_int_int (mpD a) v = some (e_B (decide (v ∈ a))) := by
  rw [slices_Contains_G_int_int_eq, slices_Index_G_int_int_eq, show (mpD a).length = a.length from List.length_map _]
  rw [range_all (F := fun i => slices_Index_G_int_int_k104 (mpD a) v a.length i) i64D a hl (fun i s k => if s = v then some (e_I64 ((i : Nat) : Int)) else k) (some (e_I64 (-1))) _ (fun i => slices_Index_G_int_int_k104_eq _ _ _ _) (fun i h e1 e2 => by
    rw [toNatN, show (mpD a).getD i [] = i64D a[i] from e1, i64D, gI_e, e2]
    by_cases c : a[i] = v
    · rw [br_eq c.symm, if_pos c]
    · rw [br_ne (fun e => c e.symm), if_neg c]), goR_fst, o_I64_e]
  congr 3
  exact propext (fstI_mem v a 0)
def chOk (ms : List Int) (i : Nat) (s : Int) : Bool := decide (1 ≤ s) && (decide (s ≤ 8) && !decide (s ∈ ms.take i))
def chB (ms : List Int) : Bool := decide (1 ≤ ms.length ∧ ms.length ≤ 8) && allI (chOk ms) 0 ms
theorem drop_take (ms : List Int) (i : Nat) : List.drop 0 (List.take i (mpD ms)) = mpD (ms.take i) := by rw [List.drop_zero]; exact List.map_take.symm
theorem channels_Valid_ok (a : List Int) (hl : a.length < 4611686018427387904) : channels_Valid (mpD a) = some (e_B (chB a)) := by
  rw [channels_Valid_eq, show (mpD a).length = a.length from List.length_map _]
  unfold chB
  by_cases h1 : 1 ≤ a.length
  · rw [br_n (by omega)]
    by_cases h2 : a.length ≤ 8
    · rw [br_n (by omega), decide_eq_true ⟨h1, h2⟩, Bool.true_and]
      rw [range_all (F := fun i => channels_Valid_k232 (mpD a) (mpD a) a.length i) i64D a hl (fun i s k => if chOk a i s then k else some (e_B false)) (some (e_B true)) _ (fun i => channels_Valid_k232_eq _ _ _ _) (fun i h e1 e2 => by
        rw [toNatN, show (mpD a).getD i [] = i64D a[i] from e1, i64D, gI_e, e2]
        unfold chOk
        by_cases c1 : 1 ≤ a[i]
        · rw [br_n (by omega), decide_eq_true c1, Bool.true_and]
          by_cases c2 : a[i] ≤ 8
          · rw [br_n (by omega), decide_eq_true c2, Bool.true_and, br_p ⟨by omega, by rw [show (mpD a).length = a.length from List.length_map _]; omega⟩, drop_take, slices_Contains_ok _ (by rw [List.length_take]; omega), o_B_e]
            cases decide (a[i] ∈ a.take i) <;> rfl
          · rw [br_p (by omega), decide_eq_false c2]; rfl
        · rw [br_p (by omega), decide_eq_false c1]; rfl), goR_allI _ _ true rfl, Bool.and_true]
    · rw [br_p (by omega), decide_eq_false (by omega)]; rfl
  · rw [br_p (by omega), decide_eq_false (by omega)]; rfl
end Go.Vm
set_option linter.unusedVariables false
set_option linter.unusedSimpArgs false
namespace Go.Vm
open Go.Proofs
structure TBox where
  kinds : Int
  rates : List Y.Span
  maps : List (List Int)
  sizes : List Y.Span
def mapD1 (m : List Int) : List D := [D.list 1 (mpD m)]
def mapsD (ms : List (List Int)) : List (List D) := ms.map mapD1
def TBox.y (b : TBox) : Y.Box := ⟨b.kinds, ⟨b.rates.map Y.Span.enc⟩, mapsD b.maps, ⟨b.sizes.map Y.Span.enc⟩⟩
def Sm {β : Type} (l : List β) : Prop := l.length < 4611686018427387904
def TBox.Sm (b : TBox) : Prop := Vm.Sm b.rates ∧ Vm.Sm b.maps ∧ Vm.Sm b.sizes ∧ ∀ m ∈ b.maps, Vm.Sm m
def boxD (b : TBox) : List D := b.y.enc
theorem mapD1_get {α : Type} (m : List Int) (K : List (List D) → Option α) : gL 1 (mapD1 m) K = K (mpD m) := by simp [gL, mapD1, tL, tE]
theorem maps_len (ms : List (List Int)) : (mapsD ms).length = ms.length := List.length_map _
def withB (ss : List Y.Span) (lo hi : Int) : Bool := match ss with
  | [] => false
  | s :: r => setB (s :: r) && (decide (s.Lo ≥ lo) && decide (((s :: r)[r.length]'(by simp)).Hi ≤ hi))
theorem within_core (ss : List Y.Span) (h0 : 0 < ss.length) (hl : Sm ss) (lo hi : Int) : br (inB 0 (ss.map Y.Span.enc).length) (Y.Span.get ((ss.map Y.Span.enc).getD 0 []) fun x2 => br (decide (x2.Lo ≥ lo)) (br (inB (IntKind.i64.wrap (((ss.map Y.Span.enc).length : Int) - 1)) (ss.map Y.Span.enc).length) (Y.Span.get ((ss.map Y.Span.enc).getD (IntKind.i64.wrap (((ss.map Y.Span.enc).length : Int) - 1)).toNat []) fun x3 => some (e_B (decide (x3.Hi ≤ hi)))) none) (some (e_B false))) none =
    some (e_B (decide (ss[0].Lo ≥ lo) && decide ((ss[ss.length - 1]'(by omega)).Hi ≤ hi))) := by
  unfold Sm at hl
  rw [List.length_map, show (0 : Int) = ((0 : Nat) : Int) from rfl, inB_lt h0, br_t, getD_map _ _ h0, Y.Span.get_enc, w64 (by omega) (by omega), show ((ss.length : Int) - 1) = ((ss.length - 1 : Nat) : Int) by omega, inB_lt (show ss.length - 1 < ss.length by omega), br_t, toNatN, getD_map _ _ (by omega), Y.Span.get_enc, andB]
theorem offer_within_ok (ss : List Y.Span) (hl : Sm ss) (lo hi : Int) : offer_within ⟨ss.map Y.Span.enc⟩ lo hi = some (e_B (withB ss lo hi)) := by
  rw [offer_within_eq]
  cases ss with
  | nil => rfl
  | cons s ss =>
    rw [within_core (s :: ss) (by simp) hl, intset_Valid_ok _ hl, o_B_e, br_p (by simp), andB]
    rfl
theorem idx_any {β : Type} (p : β → Bool) (A : Nat → List D) (B : List D) : ∀ (ss : List β) (i : Nat), (∃ k : Nat, goR (fun i s k => if p s then some (A i) else k) (some B) i ss = some (A k) ∧ ss.any p = true) ∨ (goR (fun i s k => if p s then some (A i) else k) (some B) i ss = some B ∧ ss.any p = false)
  | [], i => .inr ⟨rfl, rfl⟩
  | s :: ss, i => by
    simp only [goR, List.any_cons]
    cases p s with
    | true => exact .inl ⟨i, rfl, rfl⟩
    | false => simpa using idx_any p A B ss (i + 1)
theorem offer_has_ok (ms : List (List Int)) (m : List Int) (hl : Sm ms) (hm : ∀ x ∈ ms, Sm x) : offer_has (mapsD ms) (mpD m) = some (e_B (decide (m ∈ ms))) := by
  rw [offer_has_eq, slices_ContainsFunc_G__offer_has_1_eq, slices_IndexFunc_G__offer_has_1_eq, maps_len]
  rw [range_all (F := fun i => slices_IndexFunc_G__offer_has_1_k104 (mapsD ms) ms.length i (mpD m)) mapD1 ms hl (fun i s k => if decide (s = m) then some (e_I64_L1 ((i : Nat) : Int) (mpD m)) else k) (some (e_I64_L1 (-1) (mpD m))) _ (fun i => slices_IndexFunc_G__offer_has_1_k104_eq _ _ _ _) (fun i h e1 e2 => by
    rw [toNatN, show (mapsD ms).getD i [] = mapD1 ms[i] from e1, mapD1_get, offer_has_1_eq, channels_Same_ok _ _ (hm _ (List.getElem_mem h)), o_B_e, o_B_L1_e, e2, br_ite])]
  rcases idx_any (fun s : List Int => decide (s = m)) (fun i => e_I64_L1 ((i : Nat) : Int) (mpD m)) (e_I64_L1 (-1) (mpD m)) ms 0 with ⟨k, h1, h2⟩ | ⟨h1, h2⟩
  · rw [h1, o_I64_L1_e, o_B_L1_e, decide_eq_true (show ((k : Int) ≥ 0) by omega), decide_eq_true (by simpa using h2)]
  · rw [h1, o_I64_L1_e, o_B_L1_e, decide_eq_false (p := m ∈ ms) (fun hh => by
      have := List.any_eq_false.1 h2 m hh
      simp at this)]
    rfl
end Go.Vm
set_option linter.unusedVariables false
set_option linter.unusedSimpArgs false
namespace Go.Vm
open Go.Proofs
def badK (k : Int) : Bool := IntKind.i64.wrap (↑(BitVec.ofInt 64 k &&& ~~~BitVec.ofInt 64 254).toNat : Int) != 0
def mapOk (ms : List (List Int)) (i : Nat) (m : List Int) : Bool := chB m && !decide (m ∈ ms.take i)
def len16 (n : Nat) : Bool := decide (1 ≤ n ∧ n ≤ 16)
def boxB (b : TBox) : Bool := !(b.kinds == 0) && (!badK b.kinds && (withB b.rates 1000 768000 && (withB b.sizes 1 65536 && (allI (mapOk b.maps) 0 b.maps && len16 b.maps.length))))
theorem drop_take2 (ms : List (List Int)) (i : Nat) : List.drop 0 (List.take i (mapsD ms)) = mapsD (ms.take i) := by rw [List.drop_zero]; exact List.map_take.symm
theorem len16_e (n : Nat) : br (decide ((n : Int) ≥ 1)) (some (e_B (decide ((n : Int) ≤ 16)))) (some (e_B false)) = some (e_B (len16 n)) := by
  unfold len16
  by_cases h : 1 ≤ n
  · rw [br_p (by omega)]
    congr 3
    exact propext ⟨fun h' => ⟨h, by omega⟩, fun h' => by omega⟩
  · rw [br_n (by omega), decide_eq_false (p := 1 ≤ n ∧ n ≤ 16) (by omega)]
theorem notB (b : Bool) (x : Option (List D)) (c : Bool) (h : x = some (e_B c)) : br (!b) (some (e_B false)) x = some (e_B (b && c)) := by rw [h]; cases b <;> rfl
theorem yesB (b : Bool) (x : Option (List D)) (c : Bool) (h : x = some (e_B c)) : br b (some (e_B false)) x = some (e_B (!b && c)) := by rw [h]; cases b <;> rfl
theorem Sm.take {β : Type} {l : List β} (h : Sm l) (i : Nat) : Sm (l.take i) := by unfold Sm at *; rw [List.length_take]; omega
theorem fine_loop (b : TBox) (h : b.Sm) : offer_fine_k232 (mapsD b.maps) b.maps.length 0 b.y = some (e_B (allI (mapOk b.maps) 0 b.maps && len16 b.maps.length)) := by
  obtain ⟨s1, s2, s3, s4⟩ := h
  have hE : br (decide ((b.y.Maps.length : Int) ≥ 1)) (some (e_B (decide ((b.y.Maps.length : Int) ≤ 16)))) (some (e_B false)) = some (e_B (len16 b.maps.length)) := by rw [show b.y.Maps = mapsD b.maps from rfl, maps_len, len16_e]
  rw [range_all (F := fun i => offer_fine_k232 (mapsD b.maps) b.maps.length i b.y) mapD1 b.maps s2 (fun i s k => if mapOk b.maps i s then k else some (e_B false)) _ _ (fun i => offer_fine_k232_eq _ _ _ _) (fun i h e1 e2 => by
    rw [toNatN, show (mapsD b.maps).getD i [] = mapD1 b.maps[i] from e1, mapD1_get, channels_Valid_ok _ (s4 _ (List.getElem_mem h)), o_B_e, e2, show b.y.Maps = mapsD b.maps from rfl, br_p (show (0 : Int) ≤ (i : Int) ∧ (i : Int) ≤ ((mapsD b.maps).length : Int) by rw [maps_len]; omega), drop_take2, offer_has_ok _ _ (s2.take i) (fun x hx => s4 x (List.mem_of_mem_take hx)), o_B_e]
    unfold mapOk
    cases chB b.maps[i] with
    | false => rfl
    | true => cases decide (b.maps[i] ∈ b.maps.take i) <;> rfl), goR_allI _ _ _ hE]
theorem offer_fine_ok (b : TBox) (h : b.Sm) : offer_fine b.y = some (e_B (boxB b)) := by
  rw [offer_fine_eq, show b.y.Rates = ⟨b.rates.map Y.Span.enc⟩ from rfl, show b.y.Sizes = ⟨b.sizes.map Y.Span.enc⟩ from rfl, show b.y.Maps = mapsD b.maps from rfl, maps_len, fine_loop b h, offer_within_ok _ h.1, offer_within_ok _ h.2.2.1, o_B_e, o_B_e]
  exact yesB _ _ _ (yesB _ _ _ (notB _ _ _ (notB _ _ _ rfl)))
end Go.Vm
set_option linter.unusedVariables false
set_option linter.unusedSimpArgs false
namespace Go.Vm
open Go.Proofs
def boxesD (l : List TBox) : List (List D) := l.map boxD
def BSm (l : List TBox) : Prop := Sm l ∧ ∀ b ∈ l, b.Sm
def offB (l : List TBox) : Bool := l.all boxB && decide (l.length ≤ 64)
theorem boxes_len (l : List TBox) : (boxesD l).length = l.length := List.length_map _
theorem boxD_get {α : Type} (b : TBox) (K : Y.Box → Option α) : Y.Box.get (boxD b) K = K b.y := rfl
theorem offer_Valid_ok (l : List TBox) (h : BSm l) : offer_Valid (boxesD l) = some (e_B (offB l)) := by
  rw [offer_Valid_eq, slices_ContainsFunc_G__offer_Valid_1_eq, slices_IndexFunc_G__offer_Valid_1_eq, boxes_len]
  rw [range_all (F := fun i => slices_IndexFunc_G__offer_Valid_1_k104 (boxesD l) l.length i) boxD l h.1 (fun i s k => if !boxB s then some (e_I64 ((i : Nat) : Int)) else k) (some (e_I64 (-1))) _ (fun i => slices_IndexFunc_G__offer_Valid_1_k104_eq _ _ _) (fun i hi e1 e2 => by
    rw [toNatN, show (boxesD l).getD i [] = boxD l[i] from e1, boxD_get, offer_Valid_1_eq, offer_fine_ok _ (h.2 _ (List.getElem_mem hi)), o_B_e, o_B_e, e2, br_ite])]
  have hn : l.all boxB = !(l.any fun s => !boxB s) := by
    induction l with
    | nil => rfl
    | cons x l ih =>
      have := ih ⟨by have := h.1; unfold Sm at *; simp at this; omega, fun b hb => h.2 b (by simp [hb])⟩
      rw [List.all_cons, List.any_cons, this]
      cases boxB x <;> rfl
  unfold offB
  rw [hn]
  rcases idx_any (fun s : TBox => !boxB s) (fun i => e_I64 ((i : Nat) : Int)) (e_I64 (-1)) l 0 with ⟨k, h1, h2⟩ | ⟨h1, h2⟩
  · rw [h1, h2, o_I64_e, o_B_e, decide_eq_true (show ((k : Int) ≥ 0) by omega), andB]
    simp
  · rw [h1, h2, o_I64_e, o_B_e, andB]
    congr 2
    rw [Bool.eq_iff_iff]
    simp
    omega
end Go.Vm
set_option linter.unusedVariables false
set_option linter.unusedSimpArgs false
namespace Go.Vm
open Go.Proofs
def kindB (a b : Int) : Bool := decide (b ≥ 1) && (decide (b ≤ 7) && IntKind.i64.wrap (↑(BitVec.ofInt 64 (a.fdiv (2 ^ min b.toNat 64)) &&& BitVec.ofInt 64 1).toNat : Int) == 1)
theorem kind_core (a b : Int) : br (decide (b ≥ 1)) (br (decide (b ≤ 7)) (br (decide (b < 0)) none (some (e_B (IntKind.i64.wrap (↑(BitVec.ofInt 64 (a.fdiv (2 ^ min b.toNat 64)) &&& BitVec.ofInt 64 1).toNat : Int) == 1)))) (some (e_B false))) (some (e_B false)) = some (e_B (kindB a b)) := by
  unfold kindB
  by_cases h1 : b ≥ 1
  · rw [br_p h1, decide_eq_true h1, br_n (show ¬ b < 0 by omega), andB]; rfl
  · rw [br_n h1, decide_eq_false h1]; rfl
theorem offer_kind_ok (a : Y.Box) (b : Int) : offer_kind a b = some (e_B (kindB a.Kinds b)) := by rw [offer_kind_eq, kind_core]
def chIn (c : Y.Choice) (m : List Int) (b : TBox) : Bool := kindB b.kinds c.Format.Kind && (hasB b.rates c.Format.Rate && (decide (m ∈ b.maps) && hasB b.sizes c.Size))
def choB (l : List TBox) (c : Y.Choice) (m : List Int) : Bool := offB l && l.any (chIn c m)
theorem andC (b c : Bool) (x : Y.Choice) : br b (some (e_B_Choice c x)) (some (e_B_Choice false x)) = some (e_B_Choice (b && c) x) := by cases b <;> rfl
theorem offer_Has_1_ok {c : Y.Choice} {m : List Int} (hm : c.Format.Map = mpD m) (b : TBox) (h : b.Sm) : offer_Has_1 b.y c = some (e_B_Choice (chIn c m b) c) := by
  rw [offer_Has_1_eq, offer_kind_ok, o_B_e, hm, show b.y.Rates = ⟨b.rates.map Y.Span.enc⟩ from rfl, show b.y.Sizes = ⟨b.sizes.map Y.Span.enc⟩ from rfl, show b.y.Maps = mapsD b.maps from rfl, intset_Has_ok _ h.1, o_B_e, offer_has_ok _ _ h.2.1 h.2.2.2, o_B_e, intset_Has_ok _ h.2.2.1, o_B_e]
  simp only [andC]
  rfl
theorem offer_Has_ok {c : Y.Choice} {m : List Int} (hm : c.Format.Map = mpD m) (l : List TBox) (h : BSm l) : offer_Has (boxesD l) c = some (e_B (choB l c m)) := by
  have key : ∀ l : List TBox, BSm l → (o_B_Choice (slices_ContainsFunc_G__offer_Has_1 (boxesD l) c) fun b2 x3 => some (e_B b2)) = some (e_B (l.any (chIn c m))) := fun l h => by
    rw [slices_ContainsFunc_G__offer_Has_1_eq, slices_IndexFunc_G__offer_Has_1_eq, boxes_len]
    rw [range_all (F := fun i => slices_IndexFunc_G__offer_Has_1_k104 (boxesD l) l.length i c) boxD l h.1 (fun i s k => if chIn c m s then some (e_I64_Choice ((i : Nat) : Int) c) else k) (some (e_I64_Choice (-1) c)) _ (fun i => slices_IndexFunc_G__offer_Has_1_k104_eq _ _ _ _) (fun i hi e1 e2 => by
      rw [toNatN, show (boxesD l).getD i [] = boxD l[i] from e1, boxD_get, offer_Has_1_ok hm _ (h.2 _ (List.getElem_mem hi)), o_B_Choice_e, e2, br_ite])]
    rcases idx_any (chIn c m) (fun i => e_I64_Choice ((i : Nat) : Int) c) (e_I64_Choice (-1) c) l 0 with ⟨k, h1, h2⟩ | ⟨h1, h2⟩
    · rw [h1, h2, o_I64_Choice_e, o_B_Choice_e, decide_eq_true (show ((k : Int) ≥ 0) by omega)]
    · rw [h1, h2, o_I64_Choice_e, o_B_Choice_e]; rfl
  rw [offer_Has_eq, offer_boxes_eq, offer_Valid_ok l h, o_B_e]
  unfold choB
  cases offB l with
  | false => exact key [] ⟨by unfold Sm; simp, by simp⟩
  | true => rw [Bool.not_true, br_f, o_L4_e, key l h]; rfl
end Go.Vm
set_option linter.unusedVariables false
set_option linter.unusedSimpArgs false
namespace Go.Vm
open Go.Proofs
def lowN (n : Int) : Int := IntKind.u8.wrap (↑(BitVec.ofInt 8 n ||| BitVec.ofInt 8 32).toNat : Int)
def letB (n : Int) : Bool := (decide (n ≥ 97) && decide (n ≤ 122)) || (decide (n ≥ 65) && decide (n ≤ 90))
def othB (n : Int) : Bool := (decide (n ≥ 48) && decide (n ≤ 57)) || (n == 45 || (n == 46 || n == 95))
def nameB (i : Nat) (x : UInt8) : Bool := letB (x.toNat : Int) || (!(((i : Nat) : Int) == 0) && othB (x.toNat : Int))
theorem low_let : ∀ k : Fin 256, (decide (lowN (k.val : Int) ≥ 97) && decide (lowN (k.val : Int) ≤ 122)) = letB (k.val : Int) := by decide +kernel
theorem low_let' (x : UInt8) : (decide (lowN (x.toNat : Int) ≥ 97) && decide (lowN (x.toNat : Int) ≤ 122)) = letB (x.toNat : Int) := low_let ⟨x.toNat, x.toNat_lt⟩
def bytesL (s : ByteArray) : List UInt8 := s.data.toList
def strB (s : ByteArray) : Bool := allI nameB 0 (bytesL s) && (!s.toList == [] && decide (s.size ≤ 64))
theorem str_loop {α : Type} (s : ByteArray) (hl : s.size ≤ 9223372036854775807) {F : Int → Option α} (step : Nat → UInt8 → Option α → Option α) (E : Option α) (body : Nat → Option α)
    (hF : ∀ i : Nat, F i = br (decide ((i : Int) < (s.size : Nat))) (body i) E)
    (hs : ∀ (i : Nat) (x : UInt8), i < s.size → s.data.toList.getD i 0 = x → inB (i : Int) s.size = true → IntKind.i64.wrap ((i : Int) + 1) = ((i + 1 : Nat) : Int) → body i = step i x (F ((i + 1 : Nat) : Int))) : F 0 = goR step E 0 (bytesL s) := by
  have hz : (bytesL s).length = s.size := by unfold bytesL; simp
  have main : ∀ (m i : Nat), i ≤ s.size → s.size - i = m → F i = goR step E i ((bytesL s).drop i) := by
    intro m
    induction m with
    | zero =>
      intro i hi hm
      rw [hF, br_n (by omega), List.drop_of_length_le (by omega)]
      rfl
    | succ m ih =>
      intro i hi hm
      have hlt : i < (bytesL s).length := by omega
      rw [hF, br_p (by omega), hs i (bytesL s)[i] (by omega) (by rw [List.getD_eq_getElem?_getD]; exact congrArg (fun o => Option.getD o 0) (List.getElem?_eq_getElem hlt)) (inB_lt (by omega)) (by rw [w64 (by omega) (by omega)]; omega), ih (i + 1) (by omega) (by omega), List.drop_eq_getElem_cons hlt]
      rfl
  exact main _ 0 (Nat.zero_le _) rfl
theorem endB (s : ByteArray) : br (!s.toList == []) (some (e_B (decide ((s.size : Int) ≤ 64)))) (some (e_B false)) = some (e_B (!s.toList == [] && decide (s.size ≤ 64))) := by rw [len64, andB]
theorem words_Name_ok (s : ByteArray) (hl : s.size ≤ 9223372036854775807) : words_Name s = some (e_B (strB s)) := by
  rw [words_Name_eq]
  rw [str_loop (F := fun i => words_Name_k104 s s.size i) s hl (fun i x k => if nameB i x then k else some (e_B false)) _ _ (fun i => words_Name_k104_eq _ _ _) (fun i x hi e1 e2 e3 => by
    rw [toNatN, e1, e2, e3]
    simp only [br_t]
    unfold nameB
    rw [← low_let' x]
    unfold othB
    generalize words_Name_k104 s s.size _ = K
    unfold lowN
    generalize decide (IntKind.u8.wrap (↑(BitVec.ofInt 8 (x.toNat : Int) ||| BitVec.ofInt 8 32).toNat : Int) ≥ 97) = p
    generalize decide (IntKind.u8.wrap (↑(BitVec.ofInt 8 (x.toNat : Int) ||| BitVec.ofInt 8 32).toNat : Int) ≤ 122) = q
    generalize decide ((x.toNat : Int) ≥ 48) = d
    generalize decide ((x.toNat : Int) ≤ 57) = e
    generalize ((x.toNat : Int) == 45) = f
    generalize ((x.toNat : Int) == 46) = g
    generalize ((x.toNat : Int) == 95) = u
    generalize ((i : Int) == 0) = z
    cases p <;> cases q <;> cases d <;> cases e <;> cases f <;> cases g <;> cases u <;> cases z <;> rfl), goR_allI _ _ _ (endB s)]
  rfl
end Go.Vm
set_option linter.unusedVariables false
set_option linter.unusedSimpArgs false
namespace Go.Vm
open Go.Proofs
theorem nandB (b c : Bool) : br (!b) (some (e_B false)) (some (e_B c)) = some (e_B (b && c)) := by cases b <;> rfl
theorem lt_not (a b : Int) : decide (a < b) = !decide (a ≥ b) := by rw [← decide_not]; congr 1; exact propext ⟨fun h => by omega, fun h => by omega⟩
theorem gt_not (a b : Int) : decide (a > b) = !decide (a ≤ b) := by rw [← decide_not]; congr 1; exact propext ⟨fun h => by omega, fun h => by omega⟩
def numsB (d : Y.Descriptor) : Bool := decide (d.Domain ≥ 0) && (decide (d.Domain ≤ 65535) && (decide (d.Latency ≥ 0) && (decide (d.Latency ≤ 1048576) && (decide (d.Drift ≥ 0) && (decide (d.Drift ≤ 2048) && (decide (d.Jitter ≥ 0) && decide (d.Jitter ≤ 4096)))))))
def descB (d : Y.Descriptor) (l : List TBox) : Bool := strB d.Name && ((d.Direction == 1 || d.Direction == 2) && (numsB d && (decide (1 ≤ l.length ∧ l.length ≤ 8) && offB l)))
theorem len8 (n : Nat) (x : Bool) : (decide ((n : Int) ≥ 1) && (decide ((n : Int) ≤ 8) && x)) = (decide (1 ≤ n ∧ n ≤ 8) && x) := by
  rw [← Bool.and_assoc]
  congr 1
  rw [Bool.eq_iff_iff]
  simp
  omega
theorem descriptor_Valid_ok {d : Y.Descriptor} {l : List TBox} (hb : d.Boxes = boxesD l) (h : BSm l) (hn : d.Name.size ≤ 9223372036854775807) : descriptor_Valid d = some (e_B (descB d l)) := by
  rw [descriptor_Valid_eq, words_Name_ok _ hn, o_B_e, hb, offer_Valid_ok l h, o_B_e, boxes_len]
  simp only [lt_not, gt_not, nandB, andB, len8]
  unfold descB numsB bne
  simp only [Bool.and_assoc]
  generalize (decide (d.Domain ≥ 0) && _) = X
  cases strB d.Name <;> cases (d.Direction == 1) <;> cases (d.Direction == 2) <;> rfl
end Go.Vm
set_option linter.unusedVariables false
set_option linter.unusedSimpArgs false
namespace Go.Vm
open Go.Proofs
structure DevTy (d : Y.Device) (l : List TBox) (m : List Int) (ss : List Y.Segment) (rest : List Int) : Prop where
  hb : d.Descriptor.Boxes = boxesD l
  bs : BSm l
  hn : d.Descriptor.Name.size ≤ 9223372036854775807
  hm : d.Choice.Format.Map = mpD m
  ms : Sm m
  hs : d.Clock.Segments = ss.map Y.Segment.enc
  sss : Sm ss
  hr : d.Bridge.Resample.Rest = rest.map i32D
  rs : Sm rest
  rate : d.Choice.Format.Rate ≤ 9223372036854775807
  mast : d.Rate ≤ 9223372036854775807
def nomR (d : Y.Device) : Y.Ratio × Int := mkR d.Choice.Format.Rate d.Rate
def baseR (d : Y.Device) : Y.Ratio := if d.Descriptor.Direction = 1 then (invR (nomR d).1).1 else (nomR d).1
section
variable {d : Y.Device} {l : List TBox} {m : List Int} {ss : List Y.Segment} {rest : List Int}
theorem unit_nominal_ok (h : DevTy d l m ss rest) : device_unit_nominal ⟨d⟩ = some (e_Ratio (nomR d).1) := by
  rw [device_unit_nominal_eq, ratio_Make_ok h.rate h.mast, o_Ratio_I64_e]; rfl
theorem unit_base_ok (h : DevTy d l m ss rest) : device_unit_base ⟨d⟩ = some (e_Ratio (baseR d)) := by
  rw [device_unit_base_eq, device_unit_playback_eq, o_B_e, unit_nominal_ok h, o_Ratio_e, o_Ratio_e, ratio_Inverse_ok, o_Ratio_I64_e]
  unfold baseR
  by_cases c : d.Descriptor.Direction = 1
  · rw [if_pos c, show (d.Descriptor.Direction == 1) = true by simp [c]]; rfl
  · rw [if_neg c, show (d.Descriptor.Direction == 1) = false by simp [c]]; rfl
def setPB (d : Y.Device) : Bool := decide (d.Rate ≥ 8000) && (decide (d.Rate ≤ 192000) && (decide (d.Period ≥ 16) && decide (d.Period ≤ 8192)))
def tailB (d : Y.Device) (m : List Int) (rest : List Int) : Bool := decide (d.Since ≥ 0) && (decide (d.Since ≤ 1099511627776) && (bridgeB d.Bridge rest && ((d.Bridge.Resample.Channels == (m.length : Int)) && (d.Bridge.Resample.Phase.Base.Num == (baseR d).Num && (d.Bridge.Resample.Phase.Base.Den == (baseR d).Den && true)))))
def devB (d : Y.Device) (l : List TBox) (m : List Int) (ss : List Y.Segment) (rest : List Int) : Bool := descB d.Descriptor l && (choB l d.Choice m && (setPB d && (clockB ss && tailB d m rest)))
theorem device_Valid_ok (h : DevTy d l m ss rest) : device_Valid d = some (e_B (devB d l m ss rest)) := by
  have e1 : clock_Valid d.Clock = some (e_B (clockB ss)) := by
    rw [show d.Clock = ⟨ss.map Y.Segment.enc⟩ by rw [← h.hs]]; exact clock_Valid_ok ss h.sss
  rw [device_Valid_eq, device_unit_valid_eq, descriptor_Valid_ok h.hb h.bs h.hn, o_B_e, h.hb, offer_Has_ok h.hm l h.bs, o_B_e, device_unit_set_eq, e1, o_B_e, bridge_Valid_ok h.hr h.rs, o_B_e, device_unit_ports_eq, o_I64_e, unit_base_ok h, o_Ratio_e]
  show (o_B _ _) = _
  rw [show (Y.Device_unit.mk d).Device.Choice.Format.Map.length = m.length by rw [show (Y.Device_unit.mk d).Device.Choice.Format.Map = mpD m from h.hm]; exact List.length_map _]
  simp only [andB, o_B_e]
  unfold devB setPB tailB
  simp only [Bool.and_assoc]
end
end Go.Vm
set_option linter.unusedVariables false
set_option linter.unusedSimpArgs false
namespace Go.Vm
open Go.Proofs
theorem clone_core {A : List (List D) → List D} (a : List (List D)) (k : Nat) (h : (0 + a.length) * k ≤ 140737488355328) :
    br (decide (a.length = 0)) (both (some (A [])) (br (decide ((0 + a.length) * k ≤ 140737488355328)) (some (A ([] ++ a))) none)) (br (decide ((0 + a.length) * k ≤ 140737488355328)) (some (A ([] ++ a))) none) = some (A a) := by
  rw [decide_eq_true h, br_t, List.nil_append]
  by_cases c : a.length = 0
  · rw [br_p c, List.eq_nil_of_length_eq_zero c, both_self]
  · rw [br_n c]
theorem clone_box {a : List (List D)} (h : a.length ≤ 1000000000) : slices_Clone_G_api_Box_api_Box a = some (e_L4 a) := by
  rw [slices_Clone_G_api_Box_api_Box_eq]; exact clone_core (A := e_L4) a 80 (by omega)
theorem clone_span {a : List (List D)} (h : a.length ≤ 1000000000) : slices_Clone_G_api_Span_api_Span a = some (e_L2 a) := by
  rw [slices_Clone_G_api_Span_api_Span_eq]; exact clone_core (A := e_L2) a 16 (by omega)
theorem clone_maps {a : List (List D)} (h : a.length ≤ 1000000000) : slices_Clone_G_int_int_114 a = some (e_L1 a) := by
  rw [slices_Clone_G_int_int_114_eq]; exact clone_core (A := e_L1) a 24 (by omega)
theorem clone_map {a : List (List D)} (h : a.length ≤ 1000000000) : slices_Clone_G_int_int_115 a = some (e_L1 a) := by
  rw [slices_Clone_G_int_int_115_eq]; exact clone_core (A := e_L1) a 8 (by omega)
theorem clone_seg {a : List (List D)} (h : a.length ≤ 1000000000) : slices_Clone_G_api_Segment_api_Segment a = some (e_L3 a) := by
  rw [slices_Clone_G_api_Segment_api_Segment_eq]; exact clone_core (A := e_L3) a 24 (by omega)
theorem clone_smp {a : List (List D)} (h : a.length ≤ 1000000000) : slices_Clone_G_int32_int32 a = some (e_L1 a) := by
  rw [slices_Clone_G_int32_int32_eq]; exact clone_core (A := e_L1) a 4 (by omega)
def Few {β : Type} (l : List β) : Prop := l.length ≤ 1000000000
structure FewDev (l : List TBox) (m : List Int) (ss : List Y.Segment) (rest : List Int) : Prop where
  hl : Few l
  hb : ∀ b ∈ l, Few b.rates ∧ Few b.sizes ∧ Few b.maps ∧ ∀ x ∈ b.maps, Few x
  hm : Few m
  hs : Few ss
  hr : Few rest
theorem set_same {β : Type} {l : List β} {i : Nat} {x : β} (h : i < l.length) (e : x = l[i]) : l.set i x = l := by rw [e, List.set_getElem_self]
theorem own_maps (n0 n1 n2 : Int) (x5 x6 : Y.Device) (n7 : Int) (x8 x9 : Y.IntSet) (r10 : List (List D)) (ms : List (List Int)) (hl : Few ms) (hm : ∀ x ∈ ms, Few x) :
    ∀ (k i : Nat), i ≤ ms.length → ms.length - i = k → device_own_k478440 n0 n1 n2 ms.length i x5 x6 n7 x8 x9 r10 (mapsD ms) = device_own_k478440 n0 n1 n2 ms.length ms.length x5 x6 n7 x8 x9 r10 (mapsD ms) := by
  intro k
  induction k with
  | zero => intro i hi hk; rw [show i = ms.length by omega]
  | succ k ih =>
    intro i hi hk
    have hlt : i < ms.length := by omega
    unfold Few at *
    rw [device_own_k478440_eq, br_p (by omega), maps_len, inB_lt hlt, br_t, toNatN, show (mapsD ms).getD i [] = mapD1 ms[i] from getD_map _ _ hlt]
    rw [show [(mapD1 ms[i]).getD 0 D.bad] = mapD1 ms[i] from rfl, mapD1_get, clone_map (by unfold mpD; rw [List.length_map]; exact hm _ (List.getElem_mem hlt)), o_L1_e, br_t, w64 (by omega) (by omega)]
    rw [show D.list 1 (mpD ms[i]) :: List.drop 1 (mapD1 ms[i]) = mapD1 ms[i] from rfl, set_same (by rw [maps_len]; exact hlt) (by unfold mapsD; rw [List.getElem_map])]
    exact ih (i + 1) (by omega) (by omega)
theorem own_boxes (x2 x3 : Y.Device) (l : List TBox) (hl : Few l) (hb : ∀ b ∈ l, Few b.rates ∧ Few b.sizes ∧ Few b.maps ∧ ∀ x ∈ b.maps, Few x) :
    ∀ (k i : Nat), i ≤ l.length → l.length - i = k → device_own_k232 l.length i x2 x3 (boxesD l) = device_own_k232 l.length l.length x2 x3 (boxesD l) := by
  intro k
  induction k with
  | zero => intro i hi hk; rw [show i = l.length by omega]
  | succ k ih =>
    intro i hi hk
    have hlt : i < l.length := by omega
    obtain ⟨h1, h2, h3, h4⟩ := hb _ (List.getElem_mem hlt)
    have hl' : l.length ≤ 1000000000 := hl
    rw [device_own_k232_eq, br_p (by omega), boxes_len, inB_lt hlt, br_t, toNatN, show (boxesD l).getD i [] = boxD l[i] from getD_map _ _ hlt]
    rw [show sub (boxD l[i]) 0 4 = boxD l[i] from rfl, boxD_get]
    rw [show l[i].y.Rates.Spans = l[i].rates.map Y.Span.enc from rfl, show l[i].y.Sizes.Spans = l[i].sizes.map Y.Span.enc from rfl, show l[i].y.Maps = mapsD l[i].maps from rfl]
    rw [clone_span (by rw [List.length_map]; exact h1), o_L2_e, clone_span (by rw [List.length_map]; exact h2), o_L2_e, clone_maps (by rw [maps_len]; exact h3), o_L1_e, maps_len]
    rw [show (0 : Int) = ((0 : Nat) : Int) from rfl, own_maps _ _ _ _ _ _ _ _ _ _ h3 h4 _ 0 (by omega) rfl, device_own_k478440_eq, br_n (by omega), boxes_len, inB_lt hlt, br_t, w64 (by omega) (by omega), toNatN]
    rw [show (boxesD l).getD i [] = boxD l[i] from getD_map _ _ hlt, set_same (by rw [boxes_len]; exact hlt) (by unfold boxesD; rw [List.getElem_map]; rfl)]
    exact ih (i + 1) (by omega) (by omega)
theorem device_own_ok {d : Y.Device} {l : List TBox} {m : List Int} {ss : List Y.Segment} {rest : List Int} (h : DevTy d l m ss rest) (hf : FewDev l m ss rest) : device_own d = some (e_Device d) := by
  obtain ⟨f1, f2, f3, f4, f5⟩ := hf
  unfold Few at f3 f4 f5
  have f1' : l.length ≤ 1000000000 := f1
  rw [device_own_eq, h.hb, clone_box (by rw [boxes_len]; exact f1), o_L4_e, boxes_len, show (0 : Int) = ((0 : Nat) : Int) from rfl, own_boxes _ _ _ f1 f2 _ 0 (by omega) rfl, device_own_k232_eq, br_n (by omega)]
  rw [h.hm, clone_map (by unfold mpD; rw [List.length_map]; exact f3), o_L1_e, h.hs, clone_seg (by rw [List.length_map]; exact f4), o_L3_e, h.hr, clone_smp (by rw [List.length_map]; exact f5), o_L1_e]
  rw [← h.hb, ← h.hm, ← h.hs, ← h.hr]
end Go.Vm
