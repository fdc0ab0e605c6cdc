/- MovesP: part 5 of the texts that the proof of moves_holds needs: an evaluator of the program on data, its soundness, the equations of the functions, the plain laws. Conditions: none. -/
import Derived.Test.YtadachfhgafdjaaGreatMovesP4
import Derived.Test.YtadachfhgafdjaaGreatProg
set_option linter.unusedVariables false
namespace Go.Vm
open Go.Proofs
def tab : List (Nat × Hints) := [(3, { cuts := [(65488, { tm := [1, 7, 9, 11, 13, 14, 15], bx := [7168, 11264, 13312, 53249], tk := [], kb := [(7168, 48), (11264, 54), (13312, 54), (53249, 117)] })] }),
 (4, { cuts := [(8168, { tm := [5, 6, 7, 44, 45, 46], bx := [5120], tk := [], kt := [(44, 22)], kb := [(5120, 48)] })] }),
 (5, { cuts := [(1000, { tm := [3, 4, 5, 7, 59, 60, 61], bx := [7168], tk := [60416], kb := [(7168, 54)] }), (256408, { tm := [3, 4, 5, 7, 15, 59, 60, 61, 77, 78, 79], bx := [7168, 15360], tk := [60416, 78848], kb := [(7168, 54), (15360, 48)] }), (1050253816, { tm := [3, 4, 5, 7, 15, 17, 59, 60, 61, 77, 78, 79, 132, 133, 134], bx := [7168, 15360, 17408], tk := [60416, 78848, 135168], kb := [(7168, 54), (15360, 48)] })] }),
 (6, { cuts := [(8168, { tm := [5, 8, 82, 83, 84], bx := [5120], tk := [], kt := [(82, 28)], kb := [(5120, 48)] })] }),
 (8, { cuts := [(4072, { tm := [5, 6, 7, 9, 10, 11, 17, 18, 19, 93, 94, 95], bx := [9216, 10240, 11264, 18432, 19456, 78849], tk := [95232], kb := [(9216, 27), (10240, 32), (11264, 35), (18432, 27), (19456, 32), (78849, 117)] }), (2085672, { tm := [5, 6, 7, 9, 10, 11, 17, 18, 19, 21, 93, 94, 95, 107, 108, 109], bx := [9216, 10240, 11264, 18432, 19456, 21504, 78849], tk := [95232, 109568], kb := [(9216, 27), (10240, 32), (11264, 35), (18432, 27), (19456, 32), (21504, 48), (78849, 117)] })] }),
 (9, { cuts := [(131048, { tm := [5, 8, 10, 11, 12, 89, 90, 91], bx := [5120], tk := [12288], kt := [(89, 28)], kb := [(5120, 48)] }), (2147117048, { tm := [5, 8, 10, 11, 12, 13, 89, 90, 91, 155, 156, 157], bx := [5120], tk := [12288], kt := [(89, 28), (155, 92)], kb := [(5120, 48)] })], nils := [12] }),
 (10, { cuts := [(65200, { tm := [2, 3, 7, 8, 9, 10, 11], bx := [3072, 8192, 23553], tk := [9216], fz := [9216], kt := [(2, 98)], kb := [(3072, 48), (8192, 48), (23553, 117)] })], nils := [9] }),
 (17, { cuts := [(464, { tm := [0, 1, 2, 6, 7, 8], bx := [0, 6144, 7168], tk := [23552], kb := [(0, 117), (6144, 54), (7168, 54)], nb := [(7168, 1, 23552, 21)] })] }),
 (23, { cuts := [(464, { tm := [0, 1, 2, 3, 8, 9, 10], bx := [8192, 9216], tk := [45056], kb := [(8192, 54), (9216, 54)], nb := [(9216, 1, 45056, 21)] }), (29840, { tm := [0, 1, 2, 3, 8, 9, 10, 11], bx := [8192, 9216], tk := [45056], kb := [(8192, 54), (9216, 54)], nb := [(9216, 1, 45056, 21)] })] }),
 (35, { cuts := [(976, { tm := [2, 3, 4, 5, 6, 7, 8, 15, 16], bx := [7168, 8192], tk := [15360], kb := [(7168, 35), (8192, 39)] }), (1000, { tm := [2, 3, 4, 8, 15, 93, 94], bx := [8192], tk := [15360], kb := [(8192, 39)] }), (256408, { tm := [2, 3, 4, 8, 15, 17, 93, 94, 100, 101], bx := [8192], tk := [15360], kb := [(8192, 39)] })], nils := [15] }),
 (36, { cuts := [(464, { tm := [1, 2, 5, 6], bx := [2048], tk := [5120], kb := [(2048, 48)] })], nils := [4, 5] }),
 (37, { cuts := [(232, { tm := [13, 14, 15], bx := [], tk := [], kt := [(13, 25)] }), (119608, { tm := [13, 14, 15, 36, 37, 38], bx := [], tk := [], kt := [(13, 25), (36, 108)] })] }),
 (49, { cuts := [(976, { tm := [0, 2, 3, 5, 6], bx := [0, 2048, 3072], tk := [], kb := [(0, 117), (2048, 35), (3072, 35)] })] }),
 (53, { cuts := [(232, { tm := [1, 2, 3, 12, 13, 14], bx := [1024, 2048], tk := [3072], ren := [(3072, 3)], kt := [(12, 25)], kb := [(1024, 48), (2048, 48)] }), (478440, { tm := [1, 2, 3, 4, 5, 12, 13, 14, 36, 37, 38], bx := [1024, 2048, 5120], tk := [3072, 36864], ren := [(3072, 3), (36864, 36)], kt := [(12, 25)], kb := [(1024, 48), (2048, 48), (5120, 110)] })], keep := [11, 33] }),
 (59, { cuts := [(232, { tm := [32, 33, 34], bx := [], tk := [], kt := [(32, 42)] })] }),
 (61, { cuts := [(488, { tm := [3, 4, 6, 7, 12, 13, 14], bx := [3072, 4096, 6144], tk := [], kt := [(12, 25)], kb := [(3072, 32), (4096, 32), (6144, 32)] })] }),
 (70, { cuts := [(232, { tm := [2, 3, 15, 16], bx := [2048, 3072], tk := [], kb := [(2048, 35), (3072, 35)] })] }),
 (72, { cuts := [(232, { tm := [0, 1, 12, 13], bx := [], tk := [], kt := [(0, 42), (1, 42)] })] }),
 (74, { cuts := [(96, { tm := [0, 1], bx := [], tk := [] })] }),
 (75, { cuts := [(104, { tm := [1, 6, 7, 8], bx := [1024], tk := [], kt := [(6, 33)], kb := [(1024, 35)] })] }),
 (77, { cuts := [(232, { tm := [1, 2, 5, 12, 13, 14], bx := [2048], tk := [], kt := [(12, 33)], kb := [(2048, 35)] })] }),
 (80, { cuts := [(464, { tm := [0, 7, 8], bx := [0], tk := [7168], kb := [(0, 117)] })], nils := [6, 7] }),
 (94, { cuts := [(104, { tm := [3, 8, 9, 10], bx := [3072], tk := [], kt := [(8, 25)], kb := [(3072, 32)] })] }),
 (97, { cuts := [(104, { tm := [1, 6, 7, 8], bx := [1024], tk := [], kt := [(6, 33)], kb := [(1024, 35)] })] }),
 (99, { spec := [(8, 100000)] }),
 (110, { cuts := [(16360, { tm := [5, 11, 13, 14, 15, 16, 17, 76, 77, 78], bx := [5120, 13312, 14336, 15360, 16384], tk := [17408], ren := [(17408, 17)], kt := [(76, 98)], kb := [(5120, 39), (13312, 212), (14336, 212), (15360, 212), (16384, 212)] }), (67017208, { tm := [5, 11, 13, 14, 15, 16, 17, 76, 77, 78, 137, 138, 139], bx := [5120, 13312, 14336, 15360, 16384], tk := [17408, 140288], ren := [(17408, 17), (140288, 137)], kt := [(76, 98)], kb := [(5120, 39), (13312, 212), (14336, 212), (15360, 212), (16384, 212)] })] }),
 (111, { cuts := [(232, { tm := [2, 3, 4, 5, 6, 65, 66, 67], bx := [5120, 6144], tk := [], kt := [(4, 98), (65, 98)], kb := [(5120, 39), (6144, 39)] }), (1000, { tm := [2, 3, 4, 5, 13, 14, 15, 100, 101], bx := [5120], tk := [], kt := [(4, 98)], kb := [(5120, 39)] }), (512824, { tm := [2, 3, 4, 5, 13, 14, 15, 17, 18, 100, 101, 106, 107, 108], bx := [5120], tk := [], kt := [(4, 98), (106, 98)], kb := [(5120, 39)] })] }),
 (112, { fresh := [(0, 110)], nils := [2] }),
 (113, { fresh := [(0, 104)], nils := [2] }),
 (114, { fresh := [(0, 28)], nils := [2] }),
 (115, { fresh := [(0, 3)], nils := [2] }),
 (116, { fresh := [(0, 112)], nils := [2] }),
 (117, { fresh := [(0, 21)], nils := [2] }),
 (120, { cuts := [(232, { tm := [32, 33, 34], bx := [], tk := [], kt := [(32, 42)] })] }),
 (122, { keep := [58] }),
 (125, { cuts := [(464, { tm := [2, 3, 4, 5, 6], bx := [2048, 3072, 4096, 5120], tk := [], kb := [(2048, 110), (3072, 32), (4096, 32), (5120, 32)] }), (2024, { tm := [3, 4, 5, 58, 59, 60], bx := [3072, 4096, 5120], tk := [], kt := [(58, 108)], kb := [(3072, 32), (4096, 32), (5120, 32)] })] }),
 (132, { cuts := [(992, { tm := [1, 2, 6, 7], bx := [2048], tk := [], kb := [(2048, 41)] })] }),
 (133, { fresh := [(1, 21)], keep := [46] }),
 (134, { cuts := [(232, { tm := [0, 1, 12, 13], bx := [], tk := [], kt := [(0, 25), (1, 25)] })] }),
 (140, { cuts := [(1048544, { tm := [2, 8, 9, 10, 11, 13, 14, 15, 16], bx := [], tk := [] }), (16777184, { tm := [2, 8, 9, 10, 14, 15, 16, 17, 18], bx := [], tk := [] })] }),
 (141, { cuts := [(464, { tm := [0, 2, 3, 4], bx := [0, 2048, 3072], tk := [88064], kb := [(0, 117), (2048, 110), (3072, 110)], nb := [(3072, 2, 88064, 28)] }), (4048, { tm := [0, 2, 3, 5], bx := [0, 2048, 3072], tk := [88064], kb := [(0, 117), (2048, 110), (3072, 110)], nb := [(3072, 2, 88064, 28)] }), (1036904, { tm := [0, 2, 3, 5, 6, 7, 56, 57, 58], bx := [0, 2048, 3072], tk := [88064], kt := [(6, 28), (56, 108)], kb := [(0, 117), (2048, 110), (3072, 110)], nb := [(3072, 2, 88064, 28)] })] }),
 (142, { nils := [0] }),
 (148, { cuts := [(208, { tm := [0, 3], bx := [], tk := [] })] }),
 (149, { cuts := [(104, { tm := [0, 5, 6, 7], bx := [], tk := [], kt := [(0, 25), (5, 25)] })] }),
 (151, { cuts := [(104, { tm := [0, 8, 9], bx := [], tk := [] })] }),
 (152, { spec := [(8, 100001)] }),
 (156, { free := [.r 32] }),
 (158, { spec := [(8, 100002)] }),
 (159, { spec := [(7, 100003)] }),
 (188, { spec := [(18, 100004)] }),
 (189, { fresh := [(1, 21)], keep := [37] }),
 (192, { cuts := [(232, { tm := [1, 6, 7, 12, 13, 14], bx := [], tk := [], kt := [(12, 105)] })] }),
 (193, { cuts := [(1000, { tm := [1, 2, 47, 48], bx := [], tk := [], kt := [(1, 28), (2, 28)] })] }),
 (200, { cuts := [(976, { tm := [1, 2, 4, 5, 6, 7], bx := [2048, 4096, 5120], tk := [82944], kb := [(2048, 44), (4096, 54), (5120, 54)], nb := [(5120, 1, 82944, 21)] }), (500976, { tm := [1, 2, 4, 5, 6, 7, 9, 12, 13, 14], bx := [2048, 4096, 5120], tk := [82944], kb := [(2048, 44), (4096, 54), (5120, 54)], nb := [(5120, 1, 82944, 21)] })], fresh := [(1, 21)] }),
 (201, { cuts := [(232, { tm := [2, 3, 38, 39], bx := [2048, 3072], tk := [], kb := [(2048, 110), (3072, 110)] })] }),
 (202, { cuts := [(232, { tm := [0, 1, 12, 13], bx := [], tk := [], kt := [(0, 28), (1, 28)] })] }),
 (205, { cuts := [(232, { tm := [0, 1, 4, 5, 10, 11, 12], bx := [0, 4096], tk := [5120], fz := [5120], kt := [(1, 105), (10, 105)], kb := [(0, 117), (4096, 107)] })], nils := [5] }),
 (206, { cuts := [(96, { tm := [0, 1], bx := [], tk := [] })] }),
 (208, { cuts := [(232, { tm := [1, 27, 28, 29], bx := [1024], tk := [], kt := [(27, 108)], kb := [(1024, 110)] })] }),
 (209, { cuts := [(104, { tm := [1, 8, 9, 10], bx := [], tk := [], kt := [(8, 105)] })] }),
 (210, { cuts := [(104, { tm := [1, 7, 8, 9], bx := [], tk := [], kt := [(1, 28), (7, 108)] })] }),
 (212, { cuts := [(232, { tm := [1, 27, 28, 29], bx := [1024], tk := [], kt := [(27, 108)], kb := [(1024, 110)] })] }),
 (216, { free := [.r 3] }),
 (218, { free := [.r 28] }),
 (222, { cuts := [(232, { tm := [0, 3, 9, 10, 11], bx := [], tk := [], kt := [(0, 277), (9, 277)] }), (1000, { tm := [6, 25, 26, 27], bx := [], tk := [6144], ren := [(6144, 6)], kt := [(25, 277)] })], keep := [24], nils := [2], spec := [(24, 100005)] }),
 (231, { free := [.r 37] }),
 (233, { free := [.r 41, .r 2] }),
 (237, { cuts := [(2024, { tm := [2, 4, 5, 7, 9, 10, 47, 48], bx := [2048, 4096, 5120, 7168, 10240], tk := [46080], kb := [(2048, 44), (4096, 54), (5120, 44), (7168, 41), (10240, 54)], nb := [(10240, 1, 46080, 21)] }), (4148472, { tm := [2, 4, 5, 7, 9, 10, 13, 16, 17, 47, 48, 72, 73], bx := [2048, 4096, 5120, 7168, 10240], tk := [46080], kt := [(16, 42), (17, 42)], kb := [(2048, 44), (4096, 54), (5120, 44), (7168, 41), (10240, 54)], nb := [(10240, 1, 46080, 21)] })], fresh := [(1, 21)] }),
 (241, { cuts := [(232, { tm := [1, 5, 8, 9, 10], bx := [], tk := [5120], kt := [(1, 28), (8, 28)] })], nils := [4, 5] }),
 (243, { cuts := [(56, { tm := [0, 1, 3, 8, 9, 10], bx := [1024], tk := [], kt := [(8, 33)], kb := [(1024, 35)] })], free := [.r 35] }),
 (249, { cuts := [(232, { tm := [2, 3, 15, 16], bx := [2048, 3072], tk := [], kb := [(2048, 107), (3072, 107)] })] }),
 (251, { cuts := [(104, { tm := [0, 2, 7, 8, 9], bx := [2048], tk := [], kt := [(0, 105), (7, 105)], kb := [(2048, 107)] })] }),
 (252, { cuts := [(104, { tm := [0, 5, 6, 7], bx := [], tk := [], kt := [(0, 28), (5, 28)] })] }),
 (255, { cuts := [(232, { tm := [0, 13, 14, 15], bx := [], tk := [], kt := [(0, 28), (13, 28)] })] }),
 (257, { cuts := [(104, { tm := [1, 6, 7, 8], bx := [1024], tk := [], kt := [(6, 105)], kb := [(1024, 107)] })] }),
 (259, { cuts := [(232, { tm := [0, 1, 12, 13], bx := [], tk := [], kt := [(0, 28), (1, 28)] })] }),
 (260, { nils := [4] }),
 (267, { cuts := [(104, { tm := [1, 6, 7, 8], bx := [1024], tk := [], kt := [(6, 105)], kb := [(1024, 107)] })] }),
 (268, { cuts := [(104, { tm := [1, 7, 8, 9], bx := [], tk := [], kt := [(7, 28)] })] }),
 (271, { cuts := [(232, { tm := [3, 4, 11, 12, 13], bx := [], tk := [3072, 4096], ren := [(3072, 3)], kt := [(11, 105)] }), (488, { tm := [4, 46, 47, 48], bx := [], tk := [4096, 47104], ren := [(47104, 46)] }), (239200, { tm := [3, 4, 6, 7, 11, 12, 13], bx := [6144], tk := [3072, 4096], ren := [(3072, 3)], kt := [(11, 105)], kb := [(6144, 104)] })], nils := [2, 3, 4] }),
 (274, { cuts := [(104, { tm := [0, 1, 7, 8], bx := [], tk := [], kt := [(0, 28)] })] }),
 (100000, { base := some 154, fns := [(1, 156, 156, [2])], ext := [.r 32], spec := [(7, 100006)] }),
 (100001, { base := some 154, fns := [(1, 211, 211, [])], spec := [(7, 100007)] }),
 (100002, { base := some 214, fns := [(1, 216, 216, [2])], ext := [.r 3], spec := [(7, 100008)] }),
 (100003, { base := some 217, fns := [(1, 218, 218, [2])], ext := [.r 28], spec := [(7, 100009)] }),
 (100004, { cuts := [(224, { tm := [1, 5, 6], bx := [2048, 3072], tk := [], kb := [(2048, 41)] })], base := some 232, fns := [(1, 233, 233, [2, 3])], ext := [.r 41, .r 2] }),
 (100005, { fresh := [(0, 21)], niln := [0], trunc := [25], nils := [4], base := some 260 }),
 (100006, { cuts := [(104, { tm := [0, 1, 7, 8], bx := [2048], tk := [], kt := [(0, 25)], kb := [(2048, 32)] })], base := some 213, fns := [(1, 156, 156, [2])], ext := [.r 32] }),
 (100007, { cuts := [(104, { tm := [0, 1, 7, 8], bx := [], tk := [], kt := [(0, 25)] })], base := some 213, fns := [(1, 211, 211, [])] }),
 (100008, { cuts := [(104, { tm := [0, 1, 7, 8], bx := [2048], tk := [], kt := [(0, 105)] })], base := some 256, fns := [(1, 216, 216, [2])], ext := [.r 3] }),
 (100009, { cuts := [(104, { tm := [0, 1, 7, 8], bx := [2048], tk := [], kt := [(0, 108)], kb := [(2048, 28)] })], base := some 258, fns := [(1, 218, 218, [2])], ext := [.r 28] }),
 (127, { orc := some (posO 196) })]
def HH : FuncId → Hints := fun f => match look f tab with | some h => h | none => {}
noncomputable def Cf (f : FuncId) (xs : List Arg) : Option (List D) := callL Tryz.prog HH f xs
noncomputable def Kf (f : FuncId) (p : Nat) (l : Lv) : Option (List D) := kontL Tryz.prog HH f p l
noncomputable def XX (f : Nat) : Env := ⟨Tryz.prog, HH, Cf, Kf f, f⟩
theorem Cf_eq (f : FuncId) (xs : List Arg) : Cf f xs = start (XX f) xs := callL_eq f xs
def len8tab : List UInt8 := [0, 1, 2, 2, 3, 3, 3, 3, 4, 4, 4, 4, 4, 4, 4, 4, 5, 5, 5, 5, 5, 5, 5, 5, 5, 5, 5, 5, 5, 5, 5, 5, 6, 6, 6, 6, 6, 6, 6, 6, 6, 6, 6, 6, 6, 6, 6, 6, 6, 6, 6, 6, 6, 6, 6, 6, 6, 6, 6, 6, 6, 6, 6, 6, 7, 7, 7, 7, 7, 7, 7, 7, 7, 7, 7, 7, 7, 7, 7, 7, 7, 7, 7, 7, 7, 7, 7, 7, 7, 7, 7, 7, 7, 7, 7, 7, 7, 7, 7, 7, 7, 7, 7, 7, 7, 7, 7, 7, 7, 7, 7, 7, 7, 7, 7, 7, 7, 7, 7, 7, 7, 7, 7, 7, 7, 7, 7, 7, 8, 8, 8, 8, 8, 8, 8, 8, 8, 8, 8, 8, 8, 8, 8, 8, 8, 8, 8, 8, 8, 8, 8, 8, 8, 8, 8, 8, 8, 8, 8, 8, 8, 8, 8, 8, 8, 8, 8, 8, 8, 8, 8, 8, 8, 8, 8, 8, 8, 8, 8, 8, 8, 8, 8, 8, 8, 8, 8, 8, 8, 8, 8, 8, 8, 8, 8, 8, 8, 8, 8, 8, 8, 8, 8, 8, 8, 8, 8, 8, 8, 8, 8, 8, 8, 8, 8, 8, 8, 8, 8, 8, 8, 8, 8, 8, 8, 8, 8, 8, 8, 8, 8, 8, 8, 8, 8, 8, 8, 8, 8, 8, 8, 8, 8, 8, 8, 8, 8, 8, 8, 8, 8, 8, 8, 8, 8, 8]
theorem Kf_eq (f : FuncId) (p : Nat) (l : Lv) : Kf f p l = bodyAt (XX f) p l := kontL_eq f p l
noncomputable def ref04_Silence (a b : Int) : Option (List D) := Cf 14 [Arg.v [D.int IntKind.i64 a], Arg.v [D.int IntKind.i64 b]]
noncomputable def keep_Device (a : Y.Device) : Option (List D) := Cf 26 [Arg.v a.enc]
noncomputable def device_Record (a : Y.Device) (b : Y.Block) (c d e : Int) : Option (List D) := Cf 32 [Arg.v a.enc, Arg.v b.enc, Arg.v [D.int IntKind.i64 c], Arg.v [D.int IntKind.i64 d], Arg.v [D.int IntKind.i64 e]]
noncomputable def keep_Clock (a : Y.Clock) : Option (List D) := Cf 38 [Arg.v a.enc]
noncomputable def ref21_Open (a : Y.Descriptor) (b : Y.Choice) (c : Y.Clock) (d e : Int) : Option (List D) := Cf 50 [Arg.v a.enc, Arg.v b.enc, Arg.v c.enc, Arg.v [D.int IntKind.i64 d], Arg.v [D.int IntKind.i64 e]]
noncomputable def ref13_New (a : Y.Ratio) : Option (List D) := Cf 62 [Arg.v a.enc]
noncomputable def ref11_Same (a b : Y.Descriptor) : Option (List D) := Cf 68 [Arg.v a.enc, Arg.v b.enc]
noncomputable def ref03_gcd (a b : Int) : Option (List D) := Cf 74 [Arg.v [D.int IntKind.i64 a], Arg.v [D.int IntKind.i64 b]]
noncomputable def ref03_gcd_k96 (n0 n1 : Int) : Option (List D) := Kf 74 96 (Lv.mk [V.one (C.d (D.int IntKind.i64 n0)), V.one (C.d (D.int IntKind.i64 n1))] [] [])
noncomputable def made_Boxes (a : Y.Made_Dice) (b c : Int) : Option (List D) := Cf 80 [Arg.r a.enc, Arg.v [D.int IntKind.i64 b], Arg.v [D.int IntKind.i64 c]]
noncomputable def made_Boxes_k464 (n0 : Int) (x1 : Y.Made_Dice) (r2 : List (List D)) : Option (List D) := Kf 80 464 (Lv.mk [V.one (C.ptr 0 0 0), V.one (C.own 7168 0), V.one (C.d (D.int IntKind.i64 n0))] [[C.d (D.list 1 x1.L)]] [Tk.mk 0 false 110 4 r2])
noncomputable def device_unit_inputs (a : Y.Device_unit) : Option (List D) := Cf 86 [Arg.v a.enc]
noncomputable def device_unit_set (a : Y.Device_unit) : Option (List D) := Cf 98 [Arg.v a.enc]
noncomputable def made_Rate (a : Y.Made_Dice) : Option (List D) := Cf 104 [Arg.r a.enc]
noncomputable def slices_Clone_G_api_Segment_api_Segment (a : List (List D)) : Option (List D) := Cf 116 [Arg.v [D.list 3 a]]
noncomputable def bridge_Pull (a : Y.Bridge) (b : Int) : Option (List D) := Cf 122 [Arg.v a.enc, Arg.v [D.int IntKind.i64 b]]
noncomputable def bridge_Valid (a : Y.Bridge) : Option (List D) := Cf 128 [Arg.v a.enc]
noncomputable def ref10_Same (a b : List (List D)) : Option (List D) := Cf 134 [Arg.v [D.list 4 a], Arg.v [D.list 4 b]]
noncomputable def ref10_Same_k232 (l0 l1 : List (List D)) (n2 n3 : Int) : Option (List D) := Kf 134 232 (Lv.mk [V.one (C.d (D.list 4 l0)), V.one (C.d (D.list 4 l1)), V.one (C.d (D.int IntKind.i64 n2)), V.one (C.d (D.int IntKind.i64 n3))] [] [])
noncomputable def bits_Div64 (a b c : Int) : Option (List D) := Cf 140 [Arg.v [D.int IntKind.u64 a], Arg.v [D.int IntKind.u64 b], Arg.v [D.int IntKind.u64 c]]
noncomputable def bits_Div64_k1048544 (n0 n1 n2 n3 n4 n5 n6 n7 n8 : Int) : Option (List D) := Kf 140 1048544 (Lv.mk [V.one (C.d (D.int IntKind.u64 n0)), V.one (C.d (D.int IntKind.u64 n1)), V.one (C.d (D.int IntKind.u64 n2)), V.one (C.d (D.int IntKind.u64 n3)), V.one (C.d (D.int IntKind.u64 n4)), V.one (C.d (D.int IntKind.u64 n5)), V.one (C.d (D.int IntKind.u64 n6)), V.one (C.d (D.int IntKind.u64 n7)), V.one (C.d (D.int IntKind.u64 n8))] [] [])
noncomputable def bits_Div64_k16777184 (n0 n1 n2 n3 n4 n5 n6 n7 n8 : Int) : Option (List D) := Kf 140 16777184 (Lv.mk [V.one (C.d (D.int IntKind.u64 n0)), V.one (C.d (D.int IntKind.u64 n1)), V.one (C.d (D.int IntKind.u64 n2)), V.one (C.d (D.int IntKind.u64 n3)), V.one (C.d (D.int IntKind.u64 n4)), V.one (C.d (D.int IntKind.u64 n5)), V.one (C.d (D.int IntKind.u64 n6)), V.one (C.d (D.int IntKind.u64 n7)), V.one (C.d (D.int IntKind.u64 n8))] [] [])
noncomputable def ratio_divide (a : Int) (b : Y.Ratio) : Option (List D) := Cf 146 [Arg.v [D.int IntKind.i64 a], Arg.v b.enc]
noncomputable def offer_Valid (a : List (List D)) : Option (List D) := Cf 152 [Arg.v [D.list 4 a]]
noncomputable def offer_has (a b : List (List D)) : Option (List D) := Cf 159 [Arg.v [D.list 1 a], Arg.v [D.list 1 b]]
noncomputable def resample_New (a : Int) (b : Y.Ratio) : Option (List D) := Cf 165 [Arg.v [D.int IntKind.i64 a], Arg.v b.enc]
noncomputable def ref18_Start (a : Y.Ratio) (b c : Int) : Option (List D) := Cf 171 [Arg.v a.enc, Arg.v [D.int IntKind.i64 b], Arg.v [D.int IntKind.i64 c]]
noncomputable def ref15_block (a : Y.Resampler) : Option (List D) := Cf 183 [Arg.v a.enc]
noncomputable def resample_Take (a : Y.Resampler) (b : Int) : Option (List D) := Cf 189 [Arg.v a.enc, Arg.v [D.int IntKind.i64 b]]
noncomputable def ref10_SameBox (a b : Y.Box) : Option (List D) := Cf 201 [Arg.v a.enc, Arg.v b.enc]
noncomputable def ref10_SameBox_k232 (n0 n1 : Int) (x2 x3 : Y.Box) : Option (List D) := Kf 201 232 (Lv.mk [V.one (C.ptr 2048 0 0), V.one (C.ptr 3072 0 0), V.one (C.d (D.int IntKind.i64 n0)), V.one (C.d (D.int IntKind.i64 n1))] [[C.d (D.int IntKind.i64 x2.Kinds), C.d (D.list 2 x2.Rates.Spans), C.d (D.list 1 x2.Maps), C.d (D.list 2 x2.Sizes.Spans)], [C.d (D.int IntKind.i64 x3.Kinds), C.d (D.list 2 x3.Rates.Spans), C.d (D.list 1 x3.Maps), C.d (D.list 2 x3.Sizes.Spans)]] [])
noncomputable def ref02_letter (a : Int) : Option (List D) := Cf 207 [Arg.v [D.int IntKind.u8 a]]
noncomputable def intset_spans (a : Y.IntSet) : Option (List D) := Cf 215 [Arg.v a.enc]
noncomputable def phase_tuned (a : Int) : Option (List D) := Cf 230 [Arg.v [D.int IntKind.i64 a]]
noncomputable def resample_produce (a : Y.Resampler) (b : Int) : Option (List D) := Cf 237 [Arg.v a.enc, Arg.v [D.int IntKind.i64 b]]
noncomputable def resample_produce_k2024 (n0 n1 n2 : Int) (x3 : Y.Resampler) (x4 : Y.Block) (x5 : Y.Resampler) (x6 : Y.Phase) (n7 : Int) (r8 : List (List D)) : Option (List D) := Kf 237 2024 (Lv.mk [V.one (C.ptr 2048 0 0), V.one (C.ptr 4096 0 0), V.one (C.ptr 5120 0 0), V.one (C.ptr 7168 0 0), V.one (C.d (D.int IntKind.i64 n0)), V.one (C.ptr 10240 0 0), V.one (C.d (D.int IntKind.i64 n1)), V.one (C.d (D.int IntKind.i64 n2))] [[C.d (D.int IntKind.i64 x3.Channels), C.d (D.int IntKind.i64 x3.Phase.Base.Num), C.d (D.int IntKind.i64 x3.Phase.Base.Den), C.d (D.int IntKind.i64 x3.Phase.Adjust), C.d (D.int IntKind.i64 x3.Phase.Pos), C.d (D.int IntKind.i64 x3.Phase.Frac), C.d (D.list 1 x3.Rest)], [C.d (D.int IntKind.i64 x4.Channels), C.d (D.list 1 x4.Data)], [C.d (D.int IntKind.i64 x5.Channels), C.d (D.int IntKind.i64 x5.Phase.Base.Num), C.d (D.int IntKind.i64 x5.Phase.Base.Den), C.d (D.int IntKind.i64 x5.Phase.Adjust), C.d (D.int IntKind.i64 x5.Phase.Pos), C.d (D.int IntKind.i64 x5.Phase.Frac), C.d (D.list 1 x5.Rest)], [C.d (D.int IntKind.i64 x6.Base.Num), C.d (D.int IntKind.i64 x6.Base.Den), C.d (D.int IntKind.i64 x6.Adjust), C.d (D.int IntKind.i64 x6.Pos), C.d (D.int IntKind.i64 x6.Frac)], [C.d (D.int IntKind.i64 n7), C.own 46080 0]] [Tk.mk 0 false 21 1 r8])
noncomputable def resample_produce_k4148472 (n0 n1 : Int) (l2 l3 : List (List D)) (n4 n5 n6 n7 : Int) (x8 : Y.Resampler) (x9 : Y.Block) (x10 : Y.Resampler) (x11 : Y.Phase) (n12 : Int) (r13 : List (List D)) : Option (List D) := Kf 237 4148472 (Lv.mk [V.one (C.ptr 2048 0 0), V.one (C.ptr 4096 0 0), V.one (C.ptr 5120 0 0), V.one (C.ptr 7168 0 0), V.one (C.d (D.int IntKind.i64 n0)), V.one (C.ptr 10240 0 0), V.one (C.d (D.int IntKind.i64 n1)), V.one (C.d (D.list 1 l2)), V.one (C.d (D.list 1 l3)), V.one (C.d (D.int IntKind.i64 n4)), V.one (C.d (D.int IntKind.i64 n5)), V.one (C.d (D.int IntKind.i64 n6)), V.one (C.d (D.int IntKind.i64 n7))] [[C.d (D.int IntKind.i64 x8.Channels), C.d (D.int IntKind.i64 x8.Phase.Base.Num), C.d (D.int IntKind.i64 x8.Phase.Base.Den), C.d (D.int IntKind.i64 x8.Phase.Adjust), C.d (D.int IntKind.i64 x8.Phase.Pos), C.d (D.int IntKind.i64 x8.Phase.Frac), C.d (D.list 1 x8.Rest)], [C.d (D.int IntKind.i64 x9.Channels), C.d (D.list 1 x9.Data)], [C.d (D.int IntKind.i64 x10.Channels), C.d (D.int IntKind.i64 x10.Phase.Base.Num), C.d (D.int IntKind.i64 x10.Phase.Base.Den), C.d (D.int IntKind.i64 x10.Phase.Adjust), C.d (D.int IntKind.i64 x10.Phase.Pos), C.d (D.int IntKind.i64 x10.Phase.Frac), C.d (D.list 1 x10.Rest)], [C.d (D.int IntKind.i64 x11.Base.Num), C.d (D.int IntKind.i64 x11.Base.Den), C.d (D.int IntKind.i64 x11.Adjust), C.d (D.int IntKind.i64 x11.Pos), C.d (D.int IntKind.i64 x11.Frac)], [C.d (D.int IntKind.i64 n12), C.own 46080 0]] [Tk.mk 0 false 21 1 r13])
noncomputable def ref09_Same (a b : Y.IntSet) : Option (List D) := Cf 249 [Arg.v a.enc, Arg.v b.enc]
noncomputable def ref09_Same_k232 (n0 n1 : Int) (x2 x3 : Y.IntSet) : Option (List D) := Kf 249 232 (Lv.mk [V.one (C.ptr 2048 0 0), V.one (C.ptr 3072 0 0), V.one (C.d (D.int IntKind.i64 n0)), V.one (C.d (D.int IntKind.i64 n1))] [[C.d (D.list 2 x2.Spans)], [C.d (D.list 2 x3.Spans)]] [])
noncomputable def channels_Valid (a : List (List D)) : Option (List D) := Cf 255 [Arg.v [D.list 1 a]]
noncomputable def channels_Valid_k232 (l0 l1 : List (List D)) (n2 n3 : Int) : Option (List D) := Kf 255 232 (Lv.mk [V.one (C.d (D.list 1 l0)), V.one (C.d (D.list 1 l1)), V.one (C.d (D.int IntKind.i64 n2)), V.one (C.d (D.int IntKind.i64 n3))] [] [])
noncomputable def phase_check (a : Y.Phase) (b : Int) : Option (List D) := Cf 263 [Arg.v a.enc, Arg.v [D.int IntKind.i64 b]]
noncomputable def ratio_both (a : Int) (b : Y.Ratio) : Option (List D) := Cf 269 [Arg.v [D.int IntKind.i64 a], Arg.v b.enc]
noncomputable def slices_ContainsFunc_G__offer_Has_1 (a : List (List D)) (c : Y.Choice) : Option (List D) := Cf 100000 [Arg.v [D.list 4 a], Arg.v [], Arg.r c.enc]
noncomputable def slices_IndexFunc_G__offer_Has_1 (a : List (List D)) (c : Y.Choice) : Option (List D) := Cf 100006 [Arg.v [D.list 4 a], Arg.v [], Arg.r c.enc]
noncomputable def slices_IndexFunc_G__offer_Has_1_k104 (l0 : List (List D)) (n1 n2 : Int) (x3 : Y.Choice) : Option (List D) := Kf 100006 104 (Lv.mk [V.one (C.d (D.list 4 l0)), V.one (C.fn 156 156 [Cap.p 2048 0]), V.one (C.d (D.int IntKind.i64 n1)), V.one (C.d (D.int IntKind.i64 n2))] [[C.d (D.int IntKind.i64 x3.Format.Kind), C.d (D.int IntKind.i64 x3.Format.Rate), C.d (D.list 1 x3.Format.Map), C.d (D.int IntKind.i64 x3.Size)]] [])
noncomputable def ref19_Fill (a : Y.Bridge) : Option (List D) := Cf 15 [Arg.v a.enc]
noncomputable def ref04_Frames (a : Y.Block) : Option (List D) := Cf 21 [Arg.v a.enc]
noncomputable def keep_Block (a : Y.Block) (b : Int) : Option (List D) := Cf 27 [Arg.v a.enc, Arg.v [D.int IntKind.i64 b]]
noncomputable def ref21_Record (a : Y.Device) (b : Y.Block) (c d e : Int) : Option (List D) := Cf 33 [Arg.v a.enc, Arg.v b.enc, Arg.v [D.int IntKind.i64 c], Arg.v [D.int IntKind.i64 d], Arg.v [D.int IntKind.i64 e]]
noncomputable def made_Descriptor (a : Y.Made_Dice) (b : Int) : Option (List D) := Cf 39 [Arg.r a.enc, Arg.v [D.int IntKind.i64 b]]
noncomputable def device_check (a : Y.Device) (b : Int) (c : Y.Block) (d e : Int) : Option (List D) := Cf 57 [Arg.v a.enc, Arg.v [D.int IntKind.i64 b], Arg.v c.enc, Arg.v [D.int IntKind.i64 d], Arg.v [D.int IntKind.i64 e]]
noncomputable def clock_Between (a : Y.Clock) (b c : Int) : Option (List D) := Cf 63 [Arg.v a.enc, Arg.v [D.int IntKind.i64 b], Arg.v [D.int IntKind.i64 c]]
noncomputable def ref10_SameChoice (a b : Y.Choice) : Option (List D) := Cf 69 [Arg.v a.enc, Arg.v b.enc]
noncomputable def ref13_Valid (a : Y.Clock) : Option (List D) := Cf 75 [Arg.v a.enc]
noncomputable def ref13_Valid_k104 (l0 : List (List D)) (n1 n2 : Int) (x3 : Y.Clock) : Option (List D) := Kf 75 104 (Lv.mk [V.one (C.ptr 1024 0 0), V.one (C.d (D.list 3 l0)), V.one (C.d (D.int IntKind.i64 n1)), V.one (C.d (D.int IntKind.i64 n2))] [[C.d (D.list 3 x3.Segments)]] [])
noncomputable def made_Map (a : Y.Made_Dice) : Option (List D) := Cf 81 [Arg.r a.enc]
noncomputable def device_unit_jitter (a : Y.Device_unit) : Option (List D) := Cf 87 [Arg.v a.enc]
noncomputable def ref11_Valid (a : Y.Descriptor) : Option (List D) := Cf 93 [Arg.v a.enc]
noncomputable def offer_Has (a : List (List D)) (b : Y.Choice) : Option (List D) := Cf 99 [Arg.v [D.list 4 a], Arg.v b.enc]
noncomputable def ref13_Change (a : Y.Clock) (b : Int) (c : Y.Ratio) : Option (List D) := Cf 105 [Arg.v a.enc, Arg.v [D.int IntKind.i64 b], Arg.v c.enc]
noncomputable def slices_Clone_G_int32_int32 (a : List (List D)) : Option (List D) := Cf 117 [Arg.v [D.list 1 a]]
noncomputable def ref04_sample (a : Int) : Option (List D) := Cf 123 [Arg.v [D.int IntKind.i32 a]]
noncomputable def ref15_Feed (a : Y.Resampler) (b : Y.Block) : Option (List D) := Cf 129 [Arg.v a.enc, Arg.v b.enc]
noncomputable def ref10_SameFormat (a b : Y.Format) : Option (List D) := Cf 135 [Arg.v a.enc, Arg.v b.enc]
noncomputable def made_Box (a : Y.Made_Dice) : Option (List D) := Cf 141 [Arg.r a.enc]
noncomputable def made_Box_k464 (n0 : Int) (x1 : Y.Made_Dice) (x2 : Y.Box) (n3 : Int) (x4 x5 : Y.IntSet) (r6 : List (List D)) : Option (List D) := Kf 141 464 (Lv.mk [V.one (C.ptr 0 0 0), V.one (C.ptr 2048 0 0), V.one (C.ptr 3072 0 0), V.one (C.d (D.int IntKind.i64 n0))] [[C.d (D.list 1 x1.L)], [C.d (D.int IntKind.i64 x2.Kinds), C.d (D.list 2 x2.Rates.Spans), C.d (D.list 1 x2.Maps), C.d (D.list 2 x2.Sizes.Spans)], [C.d (D.int IntKind.i64 n3), C.d (D.list 2 x4.Spans), C.own 88064 0, C.d (D.list 2 x5.Spans)]] [Tk.mk 0 false 28 1 r6])
noncomputable def made_Box_k4048 (n0 : Int) (x1 : Y.Made_Dice) (x2 : Y.Box) (n3 : Int) (x4 x5 : Y.IntSet) (r6 : List (List D)) : Option (List D) := Kf 141 4048 (Lv.mk [V.one (C.ptr 0 0 0), V.one (C.ptr 2048 0 0), V.one (C.ptr 3072 0 0), V.one (C.d (D.int IntKind.i64 n0))] [[C.d (D.list 1 x1.L)], [C.d (D.int IntKind.i64 x2.Kinds), C.d (D.list 2 x2.Rates.Spans), C.d (D.list 1 x2.Maps), C.d (D.list 2 x2.Sizes.Spans)], [C.d (D.int IntKind.i64 n3), C.d (D.list 2 x4.Spans), C.own 88064 0, C.d (D.list 2 x5.Spans)]] [Tk.mk 0 false 28 1 r6])
noncomputable def made_Box_k1036904 (n0 : Int) (l1 : List (List D)) (b2 : Bool) (n3 n4 : Int) (x5 : Y.Made_Dice) (x6 : Y.Box) (n7 : Int) (x8 x9 : Y.IntSet) (r10 : List (List D)) : Option (List D) := Kf 141 1036904 (Lv.mk [V.one (C.ptr 0 0 0), V.one (C.ptr 2048 0 0), V.one (C.ptr 3072 0 0), V.one (C.d (D.int IntKind.i64 n0)), V.one (C.d (D.list 1 l1)), V.one (C.d (D.bool b2)), V.one (C.own 88064 0), V.one (C.d (D.int IntKind.i64 n3)), V.one (C.d (D.int IntKind.i64 n4))] [[C.d (D.list 1 x5.L)], [C.d (D.int IntKind.i64 x6.Kinds), C.d (D.list 2 x6.Rates.Spans), C.d (D.list 1 x6.Maps), C.d (D.list 2 x6.Sizes.Spans)], [C.d (D.int IntKind.i64 n7), C.d (D.list 2 x8.Spans), C.own 88064 0, C.d (D.list 2 x9.Spans)]] [Tk.mk 0 false 28 1 r10])
noncomputable def ref03_divide (a : Int) (b : Y.Ratio) : Option (List D) := Cf 147 [Arg.v [D.int IntKind.i64 a], Arg.v b.enc]
noncomputable def clock_usual (a : Y.Ratio) : Option (List D) := Cf 153 [Arg.v a.enc]
noncomputable def control_declared (a : Y.Ratio) (b c : Int) : Option (List D) := Cf 160 [Arg.v a.enc, Arg.v [D.int IntKind.i64 b], Arg.v [D.int IntKind.i64 c]]
noncomputable def control_Valid (a : Y.Control) : Option (List D) := Cf 166 [Arg.v a.enc]
noncomputable def ref18_Bound (a : Y.Control) (b : Y.Ratio) (c d e : Int) : Option (List D) := Cf 172 [Arg.v a.enc, Arg.v b.enc, Arg.v [D.int IntKind.i64 c], Arg.v [D.int IntKind.i64 d], Arg.v [D.int IntKind.i64 e]]
noncomputable def ref18_Possible (a : Y.Ratio) : Option (List D) := Cf 178 [Arg.v a.enc]
noncomputable def sample_is (a : Int) : Option (List D) := Cf 184 [Arg.v [D.int IntKind.i32 a]]
noncomputable def ref10_kind (a b : Int) : Option (List D) := Cf 190 [Arg.v [D.int IntKind.i64 a], Arg.v [D.int IntKind.i64 b]]
noncomputable def clock_piece_at (a : Y.Clock_piece) (b : Int) : Option (List D) := Cf 196 [Arg.v a.enc, Arg.v [D.int IntKind.i64 b]]
noncomputable def ref06_Same (a b : List (List D)) : Option (List D) := Cf 202 [Arg.v [D.list 1 a], Arg.v [D.list 1 b]]
noncomputable def ref06_Same_k232 (l0 l1 : List (List D)) (n2 n3 : Int) : Option (List D) := Kf 202 232 (Lv.mk [V.one (C.d (D.list 1 l0)), V.one (C.d (D.list 1 l1)), V.one (C.d (D.int IntKind.i64 n2)), V.one (C.d (D.int IntKind.i64 n3))] [] [])
noncomputable def ref10_box (a : Y.Box) : Option (List D) := Cf 208 [Arg.v a.enc]
noncomputable def ref10_box_k232 (l0 : List (List D)) (n1 n2 : Int) (x3 : Y.Box) : Option (List D) := Kf 208 232 (Lv.mk [V.one (C.ptr 1024 0 0), V.one (C.d (D.list 1 l0)), V.one (C.d (D.int IntKind.i64 n1)), V.one (C.d (D.int IntKind.i64 n2))] [[C.d (D.int IntKind.i64 x3.Kinds), C.d (D.list 2 x3.Rates.Spans), C.d (D.list 1 x3.Maps), C.d (D.list 2 x3.Sizes.Spans)]] [])
noncomputable def intset_Has_1 (a : Y.Span) (b : Int) : Option (List D) := Cf 216 [Arg.v a.enc, Arg.r [D.int IntKind.i64 b]]
noncomputable def ref18_sway (a : Y.Ratio) (b : Int) : Option (List D) := Cf 223 [Arg.v a.enc, Arg.v [D.int IntKind.i64 b]]
noncomputable def control_Adjust_1 (a : Int) (b : Y.Control) : Option (List D) := Cf 231 [Arg.v [D.int IntKind.i64 a], Arg.r b.enc]
noncomputable def ref09_spans (a : Y.IntSet) : Option (List D) := Cf 238 [Arg.v a.enc]
noncomputable def ratio_Floor (a : Int) (b : Y.Ratio) : Option (List D) := Cf 244 [Arg.v [D.int IntKind.i64 a], Arg.v b.enc]
noncomputable def bits_Len64 (a : Int) : Option (List D) := Cf 250 [Arg.v [D.int IntKind.u64 a]]
noncomputable def intset_Valid (a : Y.IntSet) : Option (List D) := Cf 257 [Arg.v a.enc]
noncomputable def intset_Valid_k104 (l0 : List (List D)) (n1 n2 : Int) (x3 : Y.IntSet) : Option (List D) := Kf 257 104 (Lv.mk [V.one (C.ptr 1024 0 0), V.one (C.d (D.list 2 l0)), V.one (C.d (D.int IntKind.i64 n1)), V.one (C.d (D.int IntKind.i64 n2))] [[C.d (D.list 2 x3.Spans)]] [])
noncomputable def phase_Advance (a : Y.Phase) (b : Int) : Option (List D) := Cf 264 [Arg.v a.enc, Arg.v [D.int IntKind.i64 b]]
noncomputable def ref14_step (a : Y.Phase) : Option (List D) := Cf 270 [Arg.v a.enc]
noncomputable def slices_ContainsFunc_G__offer_Valid_1 (a : List (List D)) : Option (List D) := Cf 100001 [Arg.v [D.list 4 a], Arg.v []]
noncomputable def slices_IndexFunc_G__offer_Valid_1 (a : List (List D)) : Option (List D) := Cf 100007 [Arg.v [D.list 4 a], Arg.v []]
noncomputable def slices_IndexFunc_G__offer_Valid_1_k104 (l0 : List (List D)) (n1 n2 : Int) : Option (List D) := Kf 100007 104 (Lv.mk [V.one (C.d (D.list 4 l0)), V.one (C.fn 211 211 []), V.one (C.d (D.int IntKind.i64 n1)), V.one (C.d (D.int IntKind.i64 n2))] [] [])
noncomputable def made_New (a : List (List D)) : Option (List D) := Cf 16 [Arg.v [D.list 1 a]]
noncomputable def made_Device (a : Y.Made_Dice) (b : Int) : Option (List D) := Cf 22 [Arg.r a.enc, Arg.v [D.int IntKind.i64 b]]
noncomputable def ref21_Due (a : Y.Device) (b c : Int) : Option (List D) := Cf 28 [Arg.v a.enc, Arg.v [D.int IntKind.i64 b], Arg.v [D.int IntKind.i64 c]]
noncomputable def ref03_Make (a b : Int) : Option (List D) := Cf 34 [Arg.v [D.int IntKind.i64 a], Arg.v [D.int IntKind.i64 b]]
noncomputable def made_Dice_Next (a : Y.Made_Dice) (b : Int) : Option (List D) := Cf 40 [Arg.r a.enc, Arg.v [D.int IntKind.i64 b]]
noncomputable def device_move (a : Y.Device) (b : Y.Block) (c : Int) : Option (List D) := Cf 58 [Arg.v a.enc, Arg.v b.enc, Arg.v [D.int IntKind.i64 c]]
noncomputable def device_unit_valid (a : Y.Device_unit) : Option (List D) := Cf 64 [Arg.v a.enc]
noncomputable def ref13_Same (a b : Y.Clock) : Option (List D) := Cf 70 [Arg.v a.enc, Arg.v b.enc]
noncomputable def ref13_Same_k232 (n0 n1 : Int) (x2 x3 : Y.Clock) : Option (List D) := Kf 70 232 (Lv.mk [V.one (C.ptr 2048 0 0), V.one (C.ptr 3072 0 0), V.one (C.d (D.int IntKind.i64 n0)), V.one (C.d (D.int IntKind.i64 n1))] [[C.d (D.list 3 x2.Segments)], [C.d (D.list 3 x3.Segments)]] [])
noncomputable def ref03_Valid (a : Y.Ratio) : Option (List D) := Cf 76 [Arg.v a.enc]
noncomputable def device_unit_nominal (a : Y.Device_unit) : Option (List D) := Cf 82 [Arg.v a.enc]
noncomputable def ratio_Inverse (a : Y.Ratio) : Option (List D) := Cf 88 [Arg.v a.enc]
noncomputable def ref10_Has (a : List (List D)) (b : Y.Choice) : Option (List D) := Cf 94 [Arg.v [D.list 4 a], Arg.v b.enc]
noncomputable def ref10_Has_k104 (l0 : List (List D)) (n1 n2 : Int) (x3 : Y.Choice) : Option (List D) := Kf 94 104 (Lv.mk [V.one (C.ptr 3072 0 0), V.one (C.d (D.list 4 l0)), V.one (C.d (D.int IntKind.i64 n1)), V.one (C.d (D.int IntKind.i64 n2))] [[C.d (D.int IntKind.i64 x3.Format.Kind), C.d (D.int IntKind.i64 x3.Format.Rate), C.d (D.list 1 x3.Format.Map), C.d (D.int IntKind.i64 x3.Size)]] [])
noncomputable def control_Plan (a : Y.Ratio) (b c d e : Int) : Option (List D) := Cf 100 [Arg.v a.enc, Arg.v [D.int IntKind.i64 b], Arg.v [D.int IntKind.i64 c], Arg.v [D.int IntKind.i64 d], Arg.v [D.int IntKind.i64 e]]
noncomputable def ref21_Inputs (a : Y.Device) : Option (List D) := Cf 106 [Arg.v a.enc]
noncomputable def slices_Clone_G_api_Box_api_Box (a : List (List D)) : Option (List D) := Cf 112 [Arg.v [D.list 4 a]]
noncomputable def ref15_Valid (a : Y.Resampler) : Option (List D) := Cf 118 [Arg.v a.enc]
noncomputable def ref10_list (a : List (List D)) : Option (List D) := Cf 124 [Arg.v [D.list 4 a]]
noncomputable def ref14_Retune (a : Y.Phase) (b : Int) : Option (List D) := Cf 130 [Arg.v a.enc, Arg.v [D.int IntKind.i64 b]]
noncomputable def ref15_Same (a b : Y.Resampler) : Option (List D) := Cf 136 [Arg.v a.enc, Arg.v b.enc]
noncomputable def made_Maps : Option (List D) := Cf 142 []
noncomputable def ref02_Name (a : ByteArray) : Option (List D) := Cf 148 [Arg.v [D.str a]]
noncomputable def ref02_Name_k208 (s0 : ByteArray) (n1 : Int) : Option (List D) := Kf 148 208 (Lv.mk [V.one (C.d (D.str s0)), V.one (C.d (D.int IntKind.i64 n1))] [] [])
noncomputable def offer_boxes (a : List (List D)) : Option (List D) := Cf 155 [Arg.v [D.list 4 a]]
noncomputable def control_up (a b : Int) : Option (List D) := Cf 161 [Arg.v [D.int IntKind.i64 a], Arg.v [D.int IntKind.i64 b]]
noncomputable def resample_Feed (a : Y.Resampler) (b : Y.Block) : Option (List D) := Cf 167 [Arg.v a.enc, Arg.v b.enc]
noncomputable def ref18_Demand (a : Y.Control) (b : Y.Ratio) (c d : Int) : Option (List D) := Cf 173 [Arg.v a.enc, Arg.v b.enc, Arg.v [D.int IntKind.i64 c], Arg.v [D.int IntKind.i64 d]]
noncomputable def resample_Waiting (a : Y.Resampler) : Option (List D) := Cf 185 [Arg.v a.enc]
noncomputable def ref10_kinds (a b c : Int) : Option (List D) := Cf 191 [Arg.v [D.int IntKind.i64 a], Arg.v [D.int IntKind.i64 b], Arg.v [D.int IntKind.i64 c]]
noncomputable def resample_Valid (a : Y.Resampler) : Option (List D) := Cf 197 [Arg.v a.enc]
noncomputable def ref03_Cmp (a b : Y.Ratio) : Option (List D) := Cf 203 [Arg.v a.enc, Arg.v b.enc]
noncomputable def ref09_Has (a : Y.IntSet) (b : Int) : Option (List D) := Cf 209 [Arg.v a.enc, Arg.v [D.int IntKind.i64 b]]
noncomputable def ref09_Has_k104 (n0 : Int) (l1 : List (List D)) (n2 n3 : Int) : Option (List D) := Kf 209 104 (Lv.mk [V.one (C.d (D.int IntKind.i64 n0)), V.one (C.d (D.list 2 l1)), V.one (C.d (D.int IntKind.i64 n2)), V.one (C.d (D.int IntKind.i64 n3))] [] [])
noncomputable def offer_has_1 (a b : List (List D)) : Option (List D) := Cf 218 [Arg.v [D.list 1 a], Arg.r [D.list 1 b]]
noncomputable def phase_Make_1 (a : Int) (b : Y.Phase) (c : Int) : Option (List D) := Cf 233 [Arg.v [D.int IntKind.i64 a], Arg.r b.enc, Arg.r [D.int IntKind.i64 c]]
noncomputable def ref09_away (a b : Int) : Option (List D) := Cf 239 [Arg.v [D.int IntKind.i64 a], Arg.v [D.int IntKind.i64 b]]
noncomputable def resample_rest (a : Y.Resampler) : Option (List D) := Cf 245 [Arg.v a.enc]
noncomputable def ref09_Make (a : List (List D)) : Option (List D) := Cf 251 [Arg.v [D.list 2 a]]
noncomputable def ref09_Make_k104 (l0 l1 : List (List D)) (n2 n3 : Int) (x4 : Y.IntSet) : Option (List D) := Kf 251 104 (Lv.mk [V.one (C.d (D.list 2 l0)), V.one (C.ptr 2048 0 0), V.one (C.d (D.list 2 l1)), V.one (C.d (D.int IntKind.i64 n2)), V.one (C.d (D.int IntKind.i64 n3))] [[C.d (D.list 2 x4.Spans)]] [])
noncomputable def slices_Equal_G_int_int (a b : List (List D)) : Option (List D) := Cf 259 [Arg.v [D.list 1 a], Arg.v [D.list 1 b]]
noncomputable def slices_Equal_G_int_int_k232 (l0 l1 : List (List D)) (n2 n3 : Int) : Option (List D) := Kf 259 232 (Lv.mk [V.one (C.d (D.list 1 l0)), V.one (C.d (D.list 1 l1)), V.one (C.d (D.int IntKind.i64 n2)), V.one (C.d (D.int IntKind.i64 n3))] [] [])
noncomputable def phase_At (a : Y.Phase) (b : Int) : Option (List D) := Cf 265 [Arg.v a.enc, Arg.v [D.int IntKind.i64 b]]
noncomputable def ref09_joined (a : List (List D)) : Option (List D) := Cf 271 [Arg.v [D.list 2 a]]
noncomputable def ref09_joined_k232 (l0 : List (List D)) (n1 n2 : Int) (r3 r4 : List (List D)) : Option (List D) := Kf 271 232 (Lv.mk [V.one (C.own 3072 0), V.one (C.own 4096 0), V.one (C.d (D.list 2 l0)), V.one (C.d (D.int IntKind.i64 n1)), V.one (C.d (D.int IntKind.i64 n2))] [] [Tk.mk 0 false 104 2 r3, Tk.mk 0 false 104 2 r4])
noncomputable def ref09_joined_k239200 (n0 : Int) (l1 : List (List D)) (n2 n3 : Int) (x4 : Y.Span) (r5 r6 : List (List D)) : Option (List D) := Kf 271 239200 (Lv.mk [V.one (C.own 3072 0), V.one (C.own 4096 0), V.one (C.ptr 6144 0 0), V.one (C.d (D.int IntKind.i64 n0)), V.one (C.d (D.list 2 l1)), V.one (C.d (D.int IntKind.i64 n2)), V.one (C.d (D.int IntKind.i64 n3))] [[C.d (D.int IntKind.i64 x4.Lo), C.d (D.int IntKind.i64 x4.Hi)]] [Tk.mk 0 false 104 2 r5, Tk.mk 0 false 104 2 r6])
noncomputable def ref09_joined_k488 (n0 n1 : Int) (r2 r3 : List (List D)) : Option (List D) := Kf 271 488 (Lv.mk [V.one (C.own 4096 0), V.one (C.own 47104 0), V.one (C.d (D.int IntKind.i64 n0)), V.one (C.d (D.int IntKind.i64 n1))] [] [Tk.mk 0 false 104 2 r2, Tk.mk 0 false 104 2 r3])
noncomputable def slices_ContainsFunc_G__intset_Has_1 (a : List (List D)) (c : Int) : Option (List D) := Cf 100002 [Arg.v [D.list 2 a], Arg.v [], Arg.r [D.int IntKind.i64 c]]
noncomputable def slices_IndexFunc_G__intset_Has_1 (a : List (List D)) (c : Int) : Option (List D) := Cf 100008 [Arg.v [D.list 2 a], Arg.v [], Arg.r [D.int IntKind.i64 c]]
noncomputable def slices_IndexFunc_G__intset_Has_1_k104 (l0 : List (List D)) (n1 n2 n3 : Int) : Option (List D) := Kf 100008 104 (Lv.mk [V.one (C.d (D.list 2 l0)), V.one (C.fn 216 216 [Cap.p 2048 0]), V.one (C.d (D.int IntKind.i64 n1)), V.one (C.d (D.int IntKind.i64 n2))] [[C.d (D.int IntKind.i64 n3)]] [])
noncomputable def law21_DeviceMoves (a : Y.Device) (b : Y.Block) (c : List (List D)) (d e f : Int) : Option (List D) := Cf 5 [Arg.v a.enc, Arg.v b.enc, Arg.v [D.list 1 c], Arg.v [D.int IntKind.i64 d], Arg.v [D.int IntKind.i64 e], Arg.v [D.int IntKind.i64 f]]
noncomputable def law21_DeviceMoves_k1000 (n0 n1 n2 n3 n4 : Int) (x5 : Y.Block) (r6 : List (List D)) : Option (List D) := Kf 5 1000 (Lv.mk [V.one (C.d (D.int IntKind.i64 n0)), V.one (C.d (D.int IntKind.i64 n1)), V.one (C.d (D.int IntKind.i64 n2)), V.one (C.ptr 7168 0 0), V.one (C.own 60416 0), V.one (C.d (D.int IntKind.i64 n3)), V.one (C.d (D.int IntKind.i64 n4))] [[C.d (D.int IntKind.i64 x5.Channels), C.d (D.list 1 x5.Data)]] [Tk.mk 0 false 48 31 r6])
noncomputable def law21_DeviceMoves_k256408 (n0 n1 n2 n3 n4 n5 n6 : Int) (x7 : Y.Block) (x8 : Y.Device) (r9 r10 : List (List D)) : Option (List D) := Kf 5 256408 (Lv.mk [V.one (C.d (D.int IntKind.i64 n0)), V.one (C.d (D.int IntKind.i64 n1)), V.one (C.d (D.int IntKind.i64 n2)), V.one (C.ptr 7168 0 0), V.one (C.ptr 15360 0 0), V.one (C.own 60416 0), V.one (C.d (D.int IntKind.i64 n3)), V.one (C.d (D.int IntKind.i64 n4)), V.one (C.own 78848 0), V.one (C.d (D.int IntKind.i64 n5)), V.one (C.d (D.int IntKind.i64 n6))] [[C.d (D.int IntKind.i64 x7.Channels), C.d (D.list 1 x7.Data)], [C.d (D.int IntKind.u64 x8.Descriptor.ID), C.d (D.str x8.Descriptor.Name), C.d (D.int IntKind.i64 x8.Descriptor.Direction), C.d (D.int IntKind.i64 x8.Descriptor.Domain), C.d (D.int IntKind.i64 x8.Descriptor.Latency), C.d (D.int IntKind.i64 x8.Descriptor.Drift), C.d (D.int IntKind.i64 x8.Descriptor.Jitter), C.d (D.list 4 x8.Descriptor.Boxes), C.d (D.int IntKind.i64 x8.Choice.Format.Kind), C.d (D.int IntKind.i64 x8.Choice.Format.Rate), C.d (D.list 1 x8.Choice.Format.Map), C.d (D.int IntKind.i64 x8.Choice.Size), C.d (D.int IntKind.i64 x8.Rate), C.d (D.int IntKind.i64 x8.Period), C.d (D.list 3 x8.Clock.Segments), C.d (D.bool x8.Running), C.d (D.int IntKind.i64 x8.Since), C.d (D.int IntKind.i64 x8.Bridge.Capacity), C.d (D.int IntKind.i64 x8.Bridge.Control.Target), C.d (D.int IntKind.i64 x8.Bridge.Control.Dead), C.d (D.int IntKind.i64 x8.Bridge.Control.Gain), C.d (D.int IntKind.i64 x8.Bridge.Control.Most), C.d (D.int IntKind.i64 x8.Bridge.Resample.Channels), C.d (D.int IntKind.i64 x8.Bridge.Resample.Phase.Base.Num), C.d (D.int IntKind.i64 x8.Bridge.Resample.Phase.Base.Den), C.d (D.int IntKind.i64 x8.Bridge.Resample.Phase.Adjust), C.d (D.int IntKind.i64 x8.Bridge.Resample.Phase.Pos), C.d (D.int IntKind.i64 x8.Bridge.Resample.Phase.Frac), C.d (D.list 1 x8.Bridge.Resample.Rest), C.d (D.int IntKind.i64 x8.Bridge.Lost), C.d (D.int IntKind.i64 x8.Bridge.Missed)]] [Tk.mk 0 false 48 31 r9, Tk.mk 0 false 75 2 r10])
noncomputable def law21_DeviceMoves_k1050253816 (n0 n1 n2 n3 n4 n5 n6 n7 n8 : Int) (x9 : Y.Block) (x10 : Y.Device) (x11 : Y.Arr2_Int) (r12 r13 r14 : List (List D)) : Option (List D) := Kf 5 1050253816 (Lv.mk [V.one (C.d (D.int IntKind.i64 n0)), V.one (C.d (D.int IntKind.i64 n1)), V.one (C.d (D.int IntKind.i64 n2)), V.one (C.ptr 7168 0 0), V.one (C.ptr 15360 0 0), V.one (C.ptr 17408 0 0), V.one (C.own 60416 0), V.one (C.d (D.int IntKind.i64 n3)), V.one (C.d (D.int IntKind.i64 n4)), V.one (C.own 78848 0), V.one (C.d (D.int IntKind.i64 n5)), V.one (C.d (D.int IntKind.i64 n6)), V.one (C.own 135168 0), V.one (C.d (D.int IntKind.i64 n7)), V.one (C.d (D.int IntKind.i64 n8))] [[C.d (D.int IntKind.i64 x9.Channels), C.d (D.list 1 x9.Data)], [C.d (D.int IntKind.u64 x10.Descriptor.ID), C.d (D.str x10.Descriptor.Name), C.d (D.int IntKind.i64 x10.Descriptor.Direction), C.d (D.int IntKind.i64 x10.Descriptor.Domain), C.d (D.int IntKind.i64 x10.Descriptor.Latency), C.d (D.int IntKind.i64 x10.Descriptor.Drift), C.d (D.int IntKind.i64 x10.Descriptor.Jitter), C.d (D.list 4 x10.Descriptor.Boxes), C.d (D.int IntKind.i64 x10.Choice.Format.Kind), C.d (D.int IntKind.i64 x10.Choice.Format.Rate), C.d (D.list 1 x10.Choice.Format.Map), C.d (D.int IntKind.i64 x10.Choice.Size), C.d (D.int IntKind.i64 x10.Rate), C.d (D.int IntKind.i64 x10.Period), C.d (D.list 3 x10.Clock.Segments), C.d (D.bool x10.Running), C.d (D.int IntKind.i64 x10.Since), C.d (D.int IntKind.i64 x10.Bridge.Capacity), C.d (D.int IntKind.i64 x10.Bridge.Control.Target), C.d (D.int IntKind.i64 x10.Bridge.Control.Dead), C.d (D.int IntKind.i64 x10.Bridge.Control.Gain), C.d (D.int IntKind.i64 x10.Bridge.Control.Most), C.d (D.int IntKind.i64 x10.Bridge.Resample.Channels), C.d (D.int IntKind.i64 x10.Bridge.Resample.Phase.Base.Num), C.d (D.int IntKind.i64 x10.Bridge.Resample.Phase.Base.Den), C.d (D.int IntKind.i64 x10.Bridge.Resample.Phase.Adjust), C.d (D.int IntKind.i64 x10.Bridge.Resample.Phase.Pos), C.d (D.int IntKind.i64 x10.Bridge.Resample.Phase.Frac), C.d (D.list 1 x10.Bridge.Resample.Rest), C.d (D.int IntKind.i64 x10.Bridge.Lost), C.d (D.int IntKind.i64 x10.Bridge.Missed)], [C.d (D.int IntKind.i64 x11.X0), C.d (D.int IntKind.i64 x11.X1)]] [Tk.mk 0 false 48 31 r12, Tk.mk 0 false 75 2 r13, Tk.mk 0 false 54 2 r14])
noncomputable def law21_sane : Option (List D) := Cf 11 []
noncomputable def made_Wave (a b c d : Int) : Option (List D) := Cf 23 [Arg.v [D.int IntKind.i64 a], Arg.v [D.int IntKind.i64 b], Arg.v [D.int IntKind.i64 c], Arg.v [D.int IntKind.i64 d]]
noncomputable def made_Wave_k464 (n0 n1 n2 n3 n4 : Int) (x5 : Y.Block) (n6 : Int) (r7 : List (List D)) : Option (List D) := Kf 23 464 (Lv.mk [V.one (C.d (D.int IntKind.i64 n0)), V.one (C.d (D.int IntKind.i64 n1)), V.one (C.d (D.int IntKind.i64 n2)), V.one (C.d (D.int IntKind.i64 n3)), V.one (C.ptr 8192 0 0), V.one (C.ptr 9216 0 0), V.one (C.d (D.int IntKind.i64 n4))] [[C.d (D.int IntKind.i64 x5.Channels), C.d (D.list 1 x5.Data)], [C.d (D.int IntKind.i64 n6), C.own 45056 0]] [Tk.mk 0 false 21 1 r7])
noncomputable def made_Wave_k29840 (n0 n1 n2 n3 n4 n5 : Int) (x6 : Y.Block) (n7 : Int) (r8 : List (List D)) : Option (List D) := Kf 23 29840 (Lv.mk [V.one (C.d (D.int IntKind.i64 n0)), V.one (C.d (D.int IntKind.i64 n1)), V.one (C.d (D.int IntKind.i64 n2)), V.one (C.d (D.int IntKind.i64 n3)), V.one (C.ptr 8192 0 0), V.one (C.ptr 9216 0 0), V.one (C.d (D.int IntKind.i64 n4)), V.one (C.d (D.int IntKind.i64 n5))] [[C.d (D.int IntKind.i64 x6.Channels), C.d (D.list 1 x6.Data)], [C.d (D.int IntKind.i64 n7), C.own 45056 0]] [Tk.mk 0 false 21 1 r8])
noncomputable def ref21_Play (a : Y.Device) (b : Y.Block) (c d : Int) : Option (List D) := Cf 29 [Arg.v a.enc, Arg.v b.enc, Arg.v [D.int IntKind.i64 c], Arg.v [D.int IntKind.i64 d]]
noncomputable def ref21_Valid (a : Y.Device) : Option (List D) := Cf 47 [Arg.v a.enc]
noncomputable def device_own (a : Y.Device) : Option (List D) := Cf 53 [Arg.v a.enc]
noncomputable def device_own_k232 (n0 n1 : Int) (x2 x3 : Y.Device) (r4 : List (List D)) : Option (List D) := Kf 53 232 (Lv.mk [V.one (C.ptr 1024 0 0), V.one (C.ptr 2048 0 0), V.one (C.own 3072 0), V.one (C.own 3072 0), V.one (C.d (D.int IntKind.i64 n0)), V.one (C.d (D.int IntKind.i64 n1))] [[C.d (D.int IntKind.u64 x2.Descriptor.ID), C.d (D.str x2.Descriptor.Name), C.d (D.int IntKind.i64 x2.Descriptor.Direction), C.d (D.int IntKind.i64 x2.Descriptor.Domain), C.d (D.int IntKind.i64 x2.Descriptor.Latency), C.d (D.int IntKind.i64 x2.Descriptor.Drift), C.d (D.int IntKind.i64 x2.Descriptor.Jitter), C.d (D.list 4 x2.Descriptor.Boxes), C.d (D.int IntKind.i64 x2.Choice.Format.Kind), C.d (D.int IntKind.i64 x2.Choice.Format.Rate), C.d (D.list 1 x2.Choice.Format.Map), C.d (D.int IntKind.i64 x2.Choice.Size), C.d (D.int IntKind.i64 x2.Rate), C.d (D.int IntKind.i64 x2.Period), C.d (D.list 3 x2.Clock.Segments), C.d (D.bool x2.Running), C.d (D.int IntKind.i64 x2.Since), C.d (D.int IntKind.i64 x2.Bridge.Capacity), C.d (D.int IntKind.i64 x2.Bridge.Control.Target), C.d (D.int IntKind.i64 x2.Bridge.Control.Dead), C.d (D.int IntKind.i64 x2.Bridge.Control.Gain), C.d (D.int IntKind.i64 x2.Bridge.Control.Most), C.d (D.int IntKind.i64 x2.Bridge.Resample.Channels), C.d (D.int IntKind.i64 x2.Bridge.Resample.Phase.Base.Num), C.d (D.int IntKind.i64 x2.Bridge.Resample.Phase.Base.Den), C.d (D.int IntKind.i64 x2.Bridge.Resample.Phase.Adjust), C.d (D.int IntKind.i64 x2.Bridge.Resample.Phase.Pos), C.d (D.int IntKind.i64 x2.Bridge.Resample.Phase.Frac), C.d (D.list 1 x2.Bridge.Resample.Rest), C.d (D.int IntKind.i64 x2.Bridge.Lost), C.d (D.int IntKind.i64 x2.Bridge.Missed)], [C.d (D.int IntKind.u64 x3.Descriptor.ID), C.d (D.str x3.Descriptor.Name), C.d (D.int IntKind.i64 x3.Descriptor.Direction), C.d (D.int IntKind.i64 x3.Descriptor.Domain), C.d (D.int IntKind.i64 x3.Descriptor.Latency), C.d (D.int IntKind.i64 x3.Descriptor.Drift), C.d (D.int IntKind.i64 x3.Descriptor.Jitter), C.d (D.list 4 x3.Descriptor.Boxes), C.d (D.int IntKind.i64 x3.Choice.Format.Kind), C.d (D.int IntKind.i64 x3.Choice.Format.Rate), C.d (D.list 1 x3.Choice.Format.Map), C.d (D.int IntKind.i64 x3.Choice.Size), C.d (D.int IntKind.i64 x3.Rate), C.d (D.int IntKind.i64 x3.Period), C.d (D.list 3 x3.Clock.Segments), C.d (D.bool x3.Running), C.d (D.int IntKind.i64 x3.Since), C.d (D.int IntKind.i64 x3.Bridge.Capacity), C.d (D.int IntKind.i64 x3.Bridge.Control.Target), C.d (D.int IntKind.i64 x3.Bridge.Control.Dead), C.d (D.int IntKind.i64 x3.Bridge.Control.Gain), C.d (D.int IntKind.i64 x3.Bridge.Control.Most), C.d (D.int IntKind.i64 x3.Bridge.Resample.Channels), C.d (D.int IntKind.i64 x3.Bridge.Resample.Phase.Base.Num), C.d (D.int IntKind.i64 x3.Bridge.Resample.Phase.Base.Den), C.d (D.int IntKind.i64 x3.Bridge.Resample.Phase.Adjust), C.d (D.int IntKind.i64 x3.Bridge.Resample.Phase.Pos), C.d (D.int IntKind.i64 x3.Bridge.Resample.Phase.Frac), C.d (D.list 1 x3.Bridge.Resample.Rest), C.d (D.int IntKind.i64 x3.Bridge.Lost), C.d (D.int IntKind.i64 x3.Bridge.Missed)]] [Tk.mk 0 false 110 4 r4])
noncomputable def device_own_k478440 (n0 n1 n2 n3 n4 : Int) (x5 x6 : Y.Device) (n7 : Int) (x8 x9 : Y.IntSet) (r10 r11 : List (List D)) : Option (List D) := Kf 53 478440 (Lv.mk [V.one (C.ptr 1024 0 0), V.one (C.ptr 2048 0 0), V.one (C.own 3072 0), V.one (C.d (D.int IntKind.i64 n0)), V.one (C.ptr 5120 0 0), V.one (C.own 3072 0), V.one (C.d (D.int IntKind.i64 n1)), V.one (C.d (D.int IntKind.i64 n2)), V.one (C.own 36864 0), V.one (C.d (D.int IntKind.i64 n3)), V.one (C.d (D.int IntKind.i64 n4))] [[C.d (D.int IntKind.u64 x5.Descriptor.ID), C.d (D.str x5.Descriptor.Name), C.d (D.int IntKind.i64 x5.Descriptor.Direction), C.d (D.int IntKind.i64 x5.Descriptor.Domain), C.d (D.int IntKind.i64 x5.Descriptor.Latency), C.d (D.int IntKind.i64 x5.Descriptor.Drift), C.d (D.int IntKind.i64 x5.Descriptor.Jitter), C.d (D.list 4 x5.Descriptor.Boxes), C.d (D.int IntKind.i64 x5.Choice.Format.Kind), C.d (D.int IntKind.i64 x5.Choice.Format.Rate), C.d (D.list 1 x5.Choice.Format.Map), C.d (D.int IntKind.i64 x5.Choice.Size), C.d (D.int IntKind.i64 x5.Rate), C.d (D.int IntKind.i64 x5.Period), C.d (D.list 3 x5.Clock.Segments), C.d (D.bool x5.Running), C.d (D.int IntKind.i64 x5.Since), C.d (D.int IntKind.i64 x5.Bridge.Capacity), C.d (D.int IntKind.i64 x5.Bridge.Control.Target), C.d (D.int IntKind.i64 x5.Bridge.Control.Dead), C.d (D.int IntKind.i64 x5.Bridge.Control.Gain), C.d (D.int IntKind.i64 x5.Bridge.Control.Most), C.d (D.int IntKind.i64 x5.Bridge.Resample.Channels), C.d (D.int IntKind.i64 x5.Bridge.Resample.Phase.Base.Num), C.d (D.int IntKind.i64 x5.Bridge.Resample.Phase.Base.Den), C.d (D.int IntKind.i64 x5.Bridge.Resample.Phase.Adjust), C.d (D.int IntKind.i64 x5.Bridge.Resample.Phase.Pos), C.d (D.int IntKind.i64 x5.Bridge.Resample.Phase.Frac), C.d (D.list 1 x5.Bridge.Resample.Rest), C.d (D.int IntKind.i64 x5.Bridge.Lost), C.d (D.int IntKind.i64 x5.Bridge.Missed)], [C.d (D.int IntKind.u64 x6.Descriptor.ID), C.d (D.str x6.Descriptor.Name), C.d (D.int IntKind.i64 x6.Descriptor.Direction), C.d (D.int IntKind.i64 x6.Descriptor.Domain), C.d (D.int IntKind.i64 x6.Descriptor.Latency), C.d (D.int IntKind.i64 x6.Descriptor.Drift), C.d (D.int IntKind.i64 x6.Descriptor.Jitter), C.d (D.list 4 x6.Descriptor.Boxes), C.d (D.int IntKind.i64 x6.Choice.Format.Kind), C.d (D.int IntKind.i64 x6.Choice.Format.Rate), C.d (D.list 1 x6.Choice.Format.Map), C.d (D.int IntKind.i64 x6.Choice.Size), C.d (D.int IntKind.i64 x6.Rate), C.d (D.int IntKind.i64 x6.Period), C.d (D.list 3 x6.Clock.Segments), C.d (D.bool x6.Running), C.d (D.int IntKind.i64 x6.Since), C.d (D.int IntKind.i64 x6.Bridge.Capacity), C.d (D.int IntKind.i64 x6.Bridge.Control.Target), C.d (D.int IntKind.i64 x6.Bridge.Control.Dead), C.d (D.int IntKind.i64 x6.Bridge.Control.Gain), C.d (D.int IntKind.i64 x6.Bridge.Control.Most), C.d (D.int IntKind.i64 x6.Bridge.Resample.Channels), C.d (D.int IntKind.i64 x6.Bridge.Resample.Phase.Base.Num), C.d (D.int IntKind.i64 x6.Bridge.Resample.Phase.Base.Den), C.d (D.int IntKind.i64 x6.Bridge.Resample.Phase.Adjust), C.d (D.int IntKind.i64 x6.Bridge.Resample.Phase.Pos), C.d (D.int IntKind.i64 x6.Bridge.Resample.Phase.Frac), C.d (D.list 1 x6.Bridge.Resample.Rest), C.d (D.int IntKind.i64 x6.Bridge.Lost), C.d (D.int IntKind.i64 x6.Bridge.Missed)], [C.d (D.int IntKind.i64 n7), C.d (D.list 2 x8.Spans), C.own 36864 0, C.d (D.list 2 x9.Spans)]] [Tk.mk 0 false 110 4 r10, Tk.mk 0 false 28 1 r11])
noncomputable def ref04_Valid (a : Y.Block) : Option (List D) := Cf 59 [Arg.v a.enc]
noncomputable def ref04_Valid_k232 (l0 : List (List D)) (n1 n2 : Int) : Option (List D) := Kf 59 232 (Lv.mk [V.one (C.d (D.list 1 l0)), V.one (C.d (D.int IntKind.i64 n1)), V.one (C.d (D.int IntKind.i64 n2))] [] [])
noncomputable def ref13_Between (a : Y.Clock) (b c : Int) : Option (List D) := Cf 65 [Arg.v a.enc, Arg.v [D.int IntKind.i64 b], Arg.v [D.int IntKind.i64 c]]
noncomputable def ref19_Same (a b : Y.Bridge) : Option (List D) := Cf 71 [Arg.v a.enc, Arg.v b.enc]
noncomputable def ref13_position (a : Y.Clock) (b : Int) : Option (List D) := Cf 77 [Arg.v a.enc, Arg.v [D.int IntKind.i64 b]]
noncomputable def ref13_position_k232 (n0 n1 : Int) (l2 : List (List D)) (n3 n4 : Int) (x5 : Y.Clock) : Option (List D) := Kf 77 232 (Lv.mk [V.one (C.d (D.int IntKind.i64 n0)), V.one (C.ptr 2048 0 0), V.one (C.d (D.int IntKind.i64 n1)), V.one (C.d (D.list 3 l2)), V.one (C.d (D.int IntKind.i64 n3)), V.one (C.d (D.int IntKind.i64 n4))] [[C.d (D.list 3 x5.Segments)]] [])
noncomputable def ref21_nominal (a : Y.Device) : Option (List D) := Cf 83 [Arg.v a.enc]
noncomputable def ratio_Ceil (a : Int) (b : Y.Ratio) : Option (List D) := Cf 89 [Arg.v [D.int IntKind.i64 a], Arg.v b.enc]
noncomputable def ref21_Base (a : Y.Device) : Option (List D) := Cf 95 [Arg.v a.enc]
noncomputable def bridge_New (a : Int) (b : Y.Ratio) (c : Y.Control) (d e : Int) : Option (List D) := Cf 101 [Arg.v [D.int IntKind.i64 a], Arg.v b.enc, Arg.v c.enc, Arg.v [D.int IntKind.i64 d], Arg.v [D.int IntKind.i64 e]]
noncomputable def ref18_Plan (a : Y.Ratio) (b c d e : Int) : Option (List D) := Cf 107 [Arg.v a.enc, Arg.v [D.int IntKind.i64 b], Arg.v [D.int IntKind.i64 c], Arg.v [D.int IntKind.i64 d], Arg.v [D.int IntKind.i64 e]]
noncomputable def slices_Clone_G_api_Span_api_Span (a : List (List D)) : Option (List D) := Cf 113 [Arg.v [D.list 2 a]]
noncomputable def ref18_Valid (a : Y.Control) : Option (List D) := Cf 119 [Arg.v a.enc]
noncomputable def ref10_best (a : Y.Box) (b : Y.Choice) : Option (List D) := Cf 125 [Arg.v a.enc, Arg.v b.enc]
noncomputable def ref10_best_k464 (n0 : Int) (x1 : Y.Box) (x2 x3 x4 : Y.Choice) : Option (List D) := Kf 125 464 (Lv.mk [V.one (C.ptr 2048 0 0), V.one (C.ptr 3072 0 0), V.one (C.ptr 4096 0 0), V.one (C.ptr 5120 0 0), V.one (C.d (D.int IntKind.i64 n0))] [[C.d (D.int IntKind.i64 x1.Kinds), C.d (D.list 2 x1.Rates.Spans), C.d (D.list 1 x1.Maps), C.d (D.list 2 x1.Sizes.Spans)], [C.d (D.int IntKind.i64 x2.Format.Kind), C.d (D.int IntKind.i64 x2.Format.Rate), C.d (D.list 1 x2.Format.Map), C.d (D.int IntKind.i64 x2.Size)], [C.d (D.int IntKind.i64 x3.Format.Kind), C.d (D.int IntKind.i64 x3.Format.Rate), C.d (D.list 1 x3.Format.Map), C.d (D.int IntKind.i64 x3.Size)], [C.d (D.int IntKind.i64 x4.Format.Kind), C.d (D.int IntKind.i64 x4.Format.Rate), C.d (D.list 1 x4.Format.Map), C.d (D.int IntKind.i64 x4.Size)]] [])
noncomputable def ref10_best_k2024 (l0 : List (List D)) (n1 n2 : Int) (x3 x4 x5 : Y.Choice) : Option (List D) := Kf 125 2024 (Lv.mk [V.one (C.ptr 3072 0 0), V.one (C.ptr 4096 0 0), V.one (C.ptr 5120 0 0), V.one (C.d (D.list 1 l0)), V.one (C.d (D.int IntKind.i64 n1)), V.one (C.d (D.int IntKind.i64 n2))] [[C.d (D.int IntKind.i64 x3.Format.Kind), C.d (D.int IntKind.i64 x3.Format.Rate), C.d (D.list 1 x3.Format.Map), C.d (D.int IntKind.i64 x3.Size)], [C.d (D.int IntKind.i64 x4.Format.Kind), C.d (D.int IntKind.i64 x4.Format.Rate), C.d (D.list 1 x4.Format.Map), C.d (D.int IntKind.i64 x4.Size)], [C.d (D.int IntKind.i64 x5.Format.Kind), C.d (D.int IntKind.i64 x5.Format.Rate), C.d (D.list 1 x5.Format.Map), C.d (D.int IntKind.i64 x5.Size)]] [])
noncomputable def ref18_Adjust (a : Y.Control) (b : Int) : Option (List D) := Cf 131 [Arg.v a.enc, Arg.v [D.int IntKind.i64 b]]
noncomputable def ref13_rate (a : Y.Ratio) : Option (List D) := Cf 137 [Arg.v a.enc]
noncomputable def ratio_Make (a b : Int) : Option (List D) := Cf 143 [Arg.v [D.int IntKind.i64 a], Arg.v [D.int IntKind.i64 b]]
noncomputable def ref10_Valid (a : List (List D)) : Option (List D) := Cf 149 [Arg.v [D.list 4 a]]
noncomputable def ref10_Valid_k104 (l0 l1 : List (List D)) (n2 n3 : Int) : Option (List D) := Kf 149 104 (Lv.mk [V.one (C.d (D.list 4 l0)), V.one (C.d (D.list 4 l1)), V.one (C.d (D.int IntKind.i64 n2)), V.one (C.d (D.int IntKind.i64 n3))] [] [])
noncomputable def offer_Has_1 (a : Y.Box) (b : Y.Choice) : Option (List D) := Cf 156 [Arg.v a.enc, Arg.r b.enc]
noncomputable def control_wobble (a : Y.Ratio) (b : Int) : Option (List D) := Cf 162 [Arg.v a.enc, Arg.v [D.int IntKind.i64 b]]
noncomputable def ref03_Mul (a b : Y.Ratio) : Option (List D) := Cf 168 [Arg.v a.enc, Arg.v b.enc]
noncomputable def ref15_New (a : Int) (b : Y.Ratio) : Option (List D) := Cf 174 [Arg.v [D.int IntKind.i64 a], Arg.v b.enc]
noncomputable def phase_Retune (a : Y.Phase) (b : Int) : Option (List D) := Cf 186 [Arg.v a.enc, Arg.v [D.int IntKind.i64 b]]
noncomputable def ref09_Nearest (a : Y.IntSet) (b : Int) : Option (List D) := Cf 192 [Arg.v a.enc, Arg.v [D.int IntKind.i64 b]]
noncomputable def ref09_Nearest_k232 (n0 n1 : Int) (b2 : Bool) (l3 : List (List D)) (n4 n5 : Int) : Option (List D) := Kf 192 232 (Lv.mk [V.one (C.d (D.int IntKind.i64 n0)), V.one (C.d (D.int IntKind.i64 n1)), V.one (C.d (D.bool b2)), V.one (C.d (D.list 2 l3)), V.one (C.d (D.int IntKind.i64 n4)), V.one (C.d (D.int IntKind.i64 n5))] [] [])
noncomputable def ref14_Need (a : Y.Phase) (b : Int) : Option (List D) := Cf 198 [Arg.v a.enc, Arg.v [D.int IntKind.i64 b]]
noncomputable def bits_LeadingZeros64 (a : Int) : Option (List D) := Cf 204 [Arg.v [D.int IntKind.u64 a]]
noncomputable def ref10_hasMap (a b : List (List D)) : Option (List D) := Cf 210 [Arg.v [D.list 1 a], Arg.v [D.list 1 b]]
noncomputable def ref10_hasMap_k104 (l0 l1 : List (List D)) (n2 n3 : Int) : Option (List D) := Kf 210 104 (Lv.mk [V.one (C.d (D.list 1 l0)), V.one (C.d (D.list 1 l1)), V.one (C.d (D.int IntKind.i64 n2)), V.one (C.d (D.int IntKind.i64 n3))] [] [])
noncomputable def channels_Same (a b : List (List D)) : Option (List D) := Cf 219 [Arg.v [D.list 1 a], Arg.v [D.list 1 b]]
noncomputable def phase_need (a : Y.Phase) (b : Int) : Option (List D) := Cf 234 [Arg.v a.enc, Arg.v [D.int IntKind.i64 b]]
noncomputable def ref10_order (a b : Int) : Option (List D) := Cf 240 [Arg.v [D.int IntKind.u64 a], Arg.v [D.int IntKind.u64 b]]
noncomputable def ref14_At (a : Y.Phase) (b : Int) : Option (List D) := Cf 246 [Arg.v a.enc, Arg.v [D.int IntKind.i64 b]]
noncomputable def ref06_Valid (a : List (List D)) : Option (List D) := Cf 252 [Arg.v [D.list 1 a]]
noncomputable def ref06_Valid_k104 (l0 l1 : List (List D)) (n2 n3 : Int) : Option (List D) := Kf 252 104 (Lv.mk [V.one (C.d (D.list 1 l0)), V.one (C.d (D.list 1 l1)), V.one (C.d (D.int IntKind.i64 n2)), V.one (C.d (D.int IntKind.i64 n3))] [] [])
noncomputable def resample_frame (a : Y.Resampler) (b : Int) : Option (List D) := Cf 266 [Arg.v a.enc, Arg.v [D.int IntKind.i64 b]]
noncomputable def slices_Contains_G_int_int (a : List (List D)) (b : Int) : Option (List D) := Cf 272 [Arg.v [D.list 1 a], Arg.v [D.int IntKind.i64 b]]
noncomputable def slices_ContainsFunc_G__offer_has_1 (a c : List (List D)) : Option (List D) := Cf 100003 [Arg.v [D.list 1 a], Arg.v [], Arg.r [D.list 1 c]]
noncomputable def slices_IndexFunc_G__offer_has_1 (a c : List (List D)) : Option (List D) := Cf 100009 [Arg.v [D.list 1 a], Arg.v [], Arg.r [D.list 1 c]]
noncomputable def slices_IndexFunc_G__offer_has_1_k104 (l0 : List (List D)) (n1 n2 : Int) (l3 : List (List D)) : Option (List D) := Kf 100009 104 (Lv.mk [V.one (C.d (D.list 1 l0)), V.one (C.fn 218 218 [Cap.p 2048 0]), V.one (C.d (D.int IntKind.i64 n1)), V.one (C.d (D.int IntKind.i64 n2))] [[C.d (D.list 1 l3)]] [])
noncomputable def law21_plain : Option (List D) := Cf 12 []
noncomputable def device_Play (a : Y.Device) (b : Y.Block) (c d : Int) : Option (List D) := Cf 18 [Arg.v a.enc, Arg.v b.enc, Arg.v [D.int IntKind.i64 c], Arg.v [D.int IntKind.i64 d]]
noncomputable def device_Due (a : Y.Device) (b c : Int) : Option (List D) := Cf 24 [Arg.v a.enc, Arg.v [D.int IntKind.i64 b], Arg.v [D.int IntKind.i64 c]]
noncomputable def ref21_Same (a b : Y.Device) : Option (List D) := Cf 30 [Arg.v a.enc, Arg.v b.enc]
noncomputable def ref21_Start (a : Y.Device) (b : Int) : Option (List D) := Cf 42 [Arg.v a.enc, Arg.v [D.int IntKind.i64 b]]
noncomputable def device_Open (a : Y.Descriptor) (b : Y.Choice) (c : Y.Clock) (d e : Int) : Option (List D) := Cf 48 [Arg.v a.enc, Arg.v b.enc, Arg.v c.enc, Arg.v [D.int IntKind.i64 d], Arg.v [D.int IntKind.i64 e]]
noncomputable def ref19_Valid (a : Y.Bridge) : Option (List D) := Cf 54 [Arg.v a.enc]
noncomputable def ref04_Cut (a : Y.Block) (b c : Int) : Option (List D) := Cf 60 [Arg.v a.enc, Arg.v [D.int IntKind.i64 b], Arg.v [D.int IntKind.i64 c]]
noncomputable def ref19_Push (a : Y.Bridge) (b : Y.Block) : Option (List D) := Cf 66 [Arg.v a.enc, Arg.v b.enc]
noncomputable def ref04_SameData (a b : List (List D)) : Option (List D) := Cf 72 [Arg.v [D.list 1 a], Arg.v [D.list 1 b]]
noncomputable def ref04_SameData_k232 (l0 l1 : List (List D)) (n2 n3 : Int) : Option (List D) := Kf 72 232 (Lv.mk [V.one (C.d (D.list 1 l0)), V.one (C.d (D.list 1 l1)), V.one (C.d (D.int IntKind.i64 n2)), V.one (C.d (D.int IntKind.i64 n3))] [] [])
noncomputable def ref03_Inverse (a : Y.Ratio) : Option (List D) := Cf 90 [Arg.v a.enc]
noncomputable def descriptor_Valid (a : Y.Descriptor) : Option (List D) := Cf 96 [Arg.v a.enc]
noncomputable def device_unit_ports (a : Y.Device_unit) : Option (List D) := Cf 102 [Arg.v a.enc]
noncomputable def ref21_Jitter (a : Y.Device) : Option (List D) := Cf 108 [Arg.v a.enc]
noncomputable def slices_Clone_G_int_int_114 (a : List (List D)) : Option (List D) := Cf 114 [Arg.v [D.list 1 a]]
noncomputable def sample_Valid (a : Y.Block) : Option (List D) := Cf 120 [Arg.v a.enc]
noncomputable def sample_Valid_k232 (l0 : List (List D)) (n1 n2 : Int) : Option (List D) := Kf 120 232 (Lv.mk [V.one (C.d (D.list 1 l0)), V.one (C.d (D.int IntKind.i64 n1)), V.one (C.d (D.int IntKind.i64 n2))] [] [])
noncomputable def ref10_Compare (a b c : Y.Choice) : Option (List D) := Cf 126 [Arg.v a.enc, Arg.v b.enc, Arg.v c.enc]
noncomputable def ref14_Make (a : Y.Phase) (b : Int) : Option (List D) := Cf 132 [Arg.v a.enc, Arg.v [D.int IntKind.i64 b]]
noncomputable def ref14_Make_k992 (n0 n1 n2 : Int) (x3 : Y.Phase) : Option (List D) := Kf 132 992 (Lv.mk [V.one (C.d (D.int IntKind.i64 n0)), V.one (C.ptr 2048 0 0), V.one (C.d (D.int IntKind.i64 n1)), V.one (C.d (D.int IntKind.i64 n2))] [[C.d (D.int IntKind.i64 x3.Base.Num), C.d (D.int IntKind.i64 x3.Base.Den), C.d (D.int IntKind.i64 x3.Adjust), C.d (D.int IntKind.i64 x3.Pos), C.d (D.int IntKind.i64 x3.Frac)]] [])
noncomputable def ref03_Floor (a : Int) (b : Y.Ratio) : Option (List D) := Cf 138 [Arg.v [D.int IntKind.i64 a], Arg.v b.enc]
noncomputable def ratio_Valid (a : Y.Ratio) : Option (List D) := Cf 144 [Arg.v a.enc]
noncomputable def ref10_in (a : Y.Box) (b : Y.Choice) : Option (List D) := Cf 150 [Arg.v a.enc, Arg.v b.enc]
noncomputable def offer_kind (a : Y.Box) (b : Int) : Option (List D) := Cf 157 [Arg.v a.enc, Arg.v [D.int IntKind.i64 b]]
noncomputable def control_Bound (a : Y.Control) (b : Y.Ratio) (c d e : Int) : Option (List D) := Cf 163 [Arg.v a.enc, Arg.v b.enc, Arg.v [D.int IntKind.i64 c], Arg.v [D.int IntKind.i64 d], Arg.v [D.int IntKind.i64 e]]
noncomputable def ref18_given (a : Y.Ratio) (b c : Int) : Option (List D) := Cf 169 [Arg.v a.enc, Arg.v [D.int IntKind.i64 b], Arg.v [D.int IntKind.i64 c]]
noncomputable def control_Adjust (a : Y.Control) (b : Int) : Option (List D) := Cf 187 [Arg.v a.enc, Arg.v [D.int IntKind.i64 b]]
noncomputable def ref10_maps (a b c : List (List D)) : Option (List D) := Cf 193 [Arg.v [D.list 1 a], Arg.v [D.list 1 b], Arg.v [D.list 1 c]]
noncomputable def ref10_maps_k1000 (l0 l1 : List (List D)) (n2 n3 : Int) : Option (List D) := Kf 193 1000 (Lv.mk [V.one (C.d (D.list 1 l0)), V.one (C.d (D.list 1 l1)), V.one (C.d (D.int IntKind.i64 n2)), V.one (C.d (D.int IntKind.i64 n3))] [] [])
noncomputable def ref15_passed (a : Y.Resampler) (b : Int) : Option (List D) := Cf 199 [Arg.v a.enc, Arg.v [D.int IntKind.i64 b]]
noncomputable def made_set (a : Y.Made_Dice) (b : List (List D)) : Option (List D) := Cf 205 [Arg.r a.enc, Arg.v [D.list 2 b]]
noncomputable def made_set_k232 (l0 l1 : List (List D)) (n2 n3 : Int) (x4 : Y.Made_Dice) (x5 : Y.IntSet) (r6 : List (List D)) : Option (List D) := Kf 205 232 (Lv.mk [V.one (C.ptr 0 0 0), V.one (C.d (D.list 2 l0)), V.one (C.ptr 4096 0 0), V.one (C.own 5120 0), V.one (C.d (D.list 2 l1)), V.one (C.d (D.int IntKind.i64 n2)), V.one (C.d (D.int IntKind.i64 n3))] [[C.d (D.list 1 x4.L)], [C.d (D.list 2 x5.Spans)]] [Tk.mk 0 true 104 2 r6])
noncomputable def offer_Valid_1 (a : Y.Box) : Option (List D) := Cf 211 [Arg.v a.enc]
noncomputable def control_possible (a : Y.Ratio) : Option (List D) := Cf 220 [Arg.v a.enc]
noncomputable def ref14_Parts (a : Y.Phase) : Option (List D) := Cf 228 [Arg.v a.enc]
noncomputable def resample_check (a : Y.Resampler) (b : Int) : Option (List D) := Cf 235 [Arg.v a.enc, Arg.v [D.int IntKind.i64 b]]
noncomputable def ref06_Common (a b : List (List D)) : Option (List D) := Cf 241 [Arg.v [D.list 1 a], Arg.v [D.list 1 b]]
noncomputable def ref06_Common_k232 (l0 l1 : List (List D)) (n2 n3 : Int) (r4 : List (List D)) : Option (List D) := Kf 241 232 (Lv.mk [V.one (C.d (D.list 1 l0)), V.one (C.own 5120 0), V.one (C.d (D.list 1 l1)), V.one (C.d (D.int IntKind.i64 n2)), V.one (C.d (D.int IntKind.i64 n3))] [] [Tk.mk 0 false 3 1 r4])
noncomputable def ref14_Advance (a : Y.Phase) (b : Int) : Option (List D) := Cf 247 [Arg.v a.enc, Arg.v [D.int IntKind.i64 b]]
noncomputable def ref10_within (a : Y.IntSet) (b c : Int) : Option (List D) := Cf 253 [Arg.v a.enc, Arg.v [D.int IntKind.i64 b], Arg.v [D.int IntKind.i64 c]]
noncomputable def phase_parts (a : Y.Phase) : Option (List D) := Cf 261 [Arg.v a.enc]
noncomputable def ref09_Valid (a : Y.IntSet) : Option (List D) := Cf 267 [Arg.v a.enc]
noncomputable def ref09_Valid_k104 (l0 : List (List D)) (n1 n2 : Int) (x3 : Y.IntSet) : Option (List D) := Kf 267 104 (Lv.mk [V.one (C.ptr 1024 0 0), V.one (C.d (D.list 2 l0)), V.one (C.d (D.int IntKind.i64 n1)), V.one (C.d (D.int IntKind.i64 n2))] [[C.d (D.list 2 x3.Spans)]] [])
noncomputable def intset_fine (a : Y.Span) : Option (List D) := Cf 273 [Arg.v a.enc]
noncomputable def sort_Search__phase_Make_1 (a : Int) (c : Y.Phase) (d : Int) : Option (List D) := Cf 100004 [Arg.v [D.int IntKind.i64 a], Arg.v [], Arg.r c.enc, Arg.r [D.int IntKind.i64 d]]
noncomputable def sort_Search__phase_Make_1_k224 (n0 n1 : Int) (x2 : Y.Phase) (n3 : Int) : Option (List D) := Kf 100004 224 (Lv.mk [V.one (C.fn 233 233 [Cap.p 2048 0, Cap.p 3072 0]), V.one (C.d (D.int IntKind.i64 n0)), V.one (C.d (D.int IntKind.i64 n1))] [[C.d (D.int IntKind.i64 x2.Base.Num), C.d (D.int IntKind.i64 x2.Base.Den), C.d (D.int IntKind.i64 x2.Adjust), C.d (D.int IntKind.i64 x2.Pos), C.d (D.int IntKind.i64 x2.Frac)], [C.d (D.int IntKind.i64 n3)]] [])
noncomputable def device_Start (a : Y.Device) (b : Int) : Option (List D) := Cf 13 [Arg.v a.enc, Arg.v [D.int IntKind.i64 b]]
noncomputable def ref04_Join (a b : Y.Block) : Option (List D) := Cf 19 [Arg.v a.enc, Arg.v b.enc]
noncomputable def device_Valid (a : Y.Device) : Option (List D) := Cf 25 [Arg.v a.enc]
noncomputable def ref04_Same (a b : Y.Block) : Option (List D) := Cf 31 [Arg.v a.enc, Arg.v b.enc]
noncomputable def keep_Boxes (a : List (List D)) (b : Int) : Option (List D) := Cf 37 [Arg.v [D.list 4 a], Arg.v [D.int IntKind.i64 b]]
noncomputable def keep_Boxes_k232 (l0 : List (List D)) (n1 n2 : Int) : Option (List D) := Kf 37 232 (Lv.mk [V.one (C.d (D.list 4 l0)), V.one (C.d (D.int IntKind.i64 n1)), V.one (C.d (D.int IntKind.i64 n2))] [] [])
noncomputable def keep_Boxes_k119608 (l0 : List (List D)) (n1 n2 : Int) (l3 : List (List D)) (n4 n5 : Int) : Option (List D) := Kf 37 119608 (Lv.mk [V.one (C.d (D.list 4 l0)), V.one (C.d (D.int IntKind.i64 n1)), V.one (C.d (D.int IntKind.i64 n2)), V.one (C.d (D.list 1 l3)), V.one (C.d (D.int IntKind.i64 n4)), V.one (C.d (D.int IntKind.i64 n5))] [] [])
noncomputable def made_Clock (a : Y.Made_Dice) : Option (List D) := Cf 49 [Arg.r a.enc]
noncomputable def made_Clock_k976 (n0 n1 : Int) (x2 : Y.Made_Dice) (x3 x4 : Y.Clock) : Option (List D) := Kf 49 976 (Lv.mk [V.one (C.ptr 0 0 0), V.one (C.ptr 2048 0 0), V.one (C.ptr 3072 0 0), V.one (C.d (D.int IntKind.i64 n0)), V.one (C.d (D.int IntKind.i64 n1))] [[C.d (D.list 1 x2.L)], [C.d (D.list 3 x3.Segments)], [C.d (D.list 3 x4.Segments)]] [])
noncomputable def ref15_Waiting (a : Y.Resampler) : Option (List D) := Cf 55 [Arg.v a.enc]
noncomputable def ref10_Best (a : List (List D)) (b : Y.Choice) : Option (List D) := Cf 61 [Arg.v [D.list 4 a], Arg.v b.enc]
noncomputable def ref10_Best_k488 (b0 : Bool) (l1 : List (List D)) (n2 n3 : Int) (x4 x5 x6 : Y.Choice) : Option (List D) := Kf 61 488 (Lv.mk [V.one (C.ptr 3072 0 0), V.one (C.ptr 4096 0 0), V.one (C.ptr 6144 0 0), V.one (C.d (D.bool b0)), V.one (C.d (D.list 4 l1)), V.one (C.d (D.int IntKind.i64 n2)), V.one (C.d (D.int IntKind.i64 n3))] [[C.d (D.int IntKind.i64 x4.Format.Kind), C.d (D.int IntKind.i64 x4.Format.Rate), C.d (D.list 1 x4.Format.Map), C.d (D.int IntKind.i64 x4.Size)], [C.d (D.int IntKind.i64 x5.Format.Kind), C.d (D.int IntKind.i64 x5.Format.Rate), C.d (D.list 1 x5.Format.Map), C.d (D.int IntKind.i64 x5.Size)], [C.d (D.int IntKind.i64 x6.Format.Kind), C.d (D.int IntKind.i64 x6.Format.Rate), C.d (D.list 1 x6.Format.Map), C.d (D.int IntKind.i64 x6.Size)]] [])
noncomputable def ref19_Pull (a : Y.Bridge) (b : Int) : Option (List D) := Cf 67 [Arg.v a.enc, Arg.v [D.int IntKind.i64 b]]
noncomputable def sample_Silence (a b : Int) : Option (List D) := Cf 73 [Arg.v [D.int IntKind.i64 a], Arg.v [D.int IntKind.i64 b]]
noncomputable def keep_Set (a : Y.IntSet) : Option (List D) := Cf 79 [Arg.v a.enc]
noncomputable def device_unit_playback (a : Y.Device_unit) : Option (List D) := Cf 85 [Arg.v a.enc]
noncomputable def ref03_Ceil (a : Int) (b : Y.Ratio) : Option (List D) := Cf 91 [Arg.v [D.int IntKind.i64 a], Arg.v b.enc]
noncomputable def clock_Valid (a : Y.Clock) : Option (List D) := Cf 97 [Arg.v a.enc]
noncomputable def clock_Valid_k104 (l0 : List (List D)) (n1 n2 : Int) (x3 : Y.Clock) : Option (List D) := Kf 97 104 (Lv.mk [V.one (C.ptr 1024 0 0), V.one (C.d (D.list 3 l0)), V.one (C.d (D.int IntKind.i64 n1)), V.one (C.d (D.int IntKind.i64 n2))] [[C.d (D.list 3 x3.Segments)]] [])
noncomputable def device_unit_base (a : Y.Device_unit) : Option (List D) := Cf 103 [Arg.v a.enc]
noncomputable def ref19_New (a : Int) (b : Y.Ratio) (c : Y.Control) (d e : Int) : Option (List D) := Cf 109 [Arg.v [D.int IntKind.i64 a], Arg.v b.enc, Arg.v c.enc, Arg.v [D.int IntKind.i64 d], Arg.v [D.int IntKind.i64 e]]
noncomputable def slices_Clone_G_int_int_115 (a : List (List D)) : Option (List D) := Cf 115 [Arg.v [D.list 1 a]]
noncomputable def bridge_Push (a : Y.Bridge) (b : Y.Block) : Option (List D) := Cf 121 [Arg.v a.enc, Arg.v b.enc]
noncomputable def clock_position (a : Y.Clock) (b : Int) : Option (List D) := Cf 127 [Arg.v a.enc, Arg.v [D.int IntKind.i64 b]]
noncomputable def ref15_Take (a : Y.Resampler) (b : Int) : Option (List D) := Cf 133 [Arg.v a.enc, Arg.v [D.int IntKind.i64 b]]
noncomputable def bits_Mul64 (a b : Int) : Option (List D) := Cf 139 [Arg.v [D.int IntKind.u64 a], Arg.v [D.int IntKind.u64 b]]
noncomputable def ratio_check (a : Int) (b : Y.Ratio) : Option (List D) := Cf 145 [Arg.v [D.int IntKind.i64 a], Arg.v b.enc]
noncomputable def words_Name (a : ByteArray) : Option (List D) := Cf 151 [Arg.v [D.str a]]
noncomputable def words_Name_k104 (s0 : ByteArray) (n1 n2 : Int) : Option (List D) := Kf 151 104 (Lv.mk [V.one (C.d (D.str s0)), V.one (C.d (D.int IntKind.i64 n1)), V.one (C.d (D.int IntKind.i64 n2))] [] [])
noncomputable def intset_Has (a : Y.IntSet) (b : Int) : Option (List D) := Cf 158 [Arg.v a.enc, Arg.v [D.int IntKind.i64 b]]
noncomputable def control_Demand (a : Y.Control) (b : Y.Ratio) (c d : Int) : Option (List D) := Cf 164 [Arg.v a.enc, Arg.v b.enc, Arg.v [D.int IntKind.i64 c], Arg.v [D.int IntKind.i64 d]]
noncomputable def ref18_up (a b : Int) : Option (List D) := Cf 170 [Arg.v [D.int IntKind.i64 a], Arg.v [D.int IntKind.i64 b]]
noncomputable def ref14_Valid (a : Y.Phase) : Option (List D) := Cf 182 [Arg.v a.enc]
noncomputable def phase_Make (a : Y.Phase) (b : Int) : Option (List D) := Cf 188 [Arg.v a.enc, Arg.v [D.int IntKind.i64 b]]
noncomputable def ref10_nearer (a b c : Int) : Option (List D) := Cf 194 [Arg.v [D.int IntKind.i64 a], Arg.v [D.int IntKind.i64 b], Arg.v [D.int IntKind.i64 c]]
noncomputable def ref15_frames (a : Y.Resampler) (b : Int) : Option (List D) := Cf 200 [Arg.v a.enc, Arg.v [D.int IntKind.i64 b]]
noncomputable def ref15_frames_k976 (n0 n1 n2 : Int) (x3 : Y.Resampler) (x4 : Y.Block) (n5 : Int) (r6 : List (List D)) : Option (List D) := Kf 200 976 (Lv.mk [V.one (C.d (D.int IntKind.i64 n0)), V.one (C.ptr 2048 0 0), V.one (C.ptr 4096 0 0), V.one (C.ptr 5120 0 0), V.one (C.d (D.int IntKind.i64 n1)), V.one (C.d (D.int IntKind.i64 n2))] [[C.d (D.int IntKind.i64 x3.Channels), C.d (D.int IntKind.i64 x3.Phase.Base.Num), C.d (D.int IntKind.i64 x3.Phase.Base.Den), C.d (D.int IntKind.i64 x3.Phase.Adjust), C.d (D.int IntKind.i64 x3.Phase.Pos), C.d (D.int IntKind.i64 x3.Phase.Frac), C.d (D.list 1 x3.Rest)], [C.d (D.int IntKind.i64 x4.Channels), C.d (D.list 1 x4.Data)], [C.d (D.int IntKind.i64 n5), C.own 82944 0]] [Tk.mk 0 false 21 1 r6])
noncomputable def ref15_frames_k500976 (n0 n1 n2 n3 n4 n5 n6 : Int) (x7 : Y.Resampler) (x8 : Y.Block) (n9 : Int) (r10 : List (List D)) : Option (List D) := Kf 200 500976 (Lv.mk [V.one (C.d (D.int IntKind.i64 n0)), V.one (C.ptr 2048 0 0), V.one (C.ptr 4096 0 0), V.one (C.ptr 5120 0 0), V.one (C.d (D.int IntKind.i64 n1)), V.one (C.d (D.int IntKind.i64 n2)), V.one (C.d (D.int IntKind.i64 n3)), V.one (C.d (D.int IntKind.i64 n4)), V.one (C.d (D.int IntKind.i64 n5)), V.one (C.d (D.int IntKind.i64 n6))] [[C.d (D.int IntKind.i64 x7.Channels), C.d (D.int IntKind.i64 x7.Phase.Base.Num), C.d (D.int IntKind.i64 x7.Phase.Base.Den), C.d (D.int IntKind.i64 x7.Phase.Adjust), C.d (D.int IntKind.i64 x7.Phase.Pos), C.d (D.int IntKind.i64 x7.Phase.Frac), C.d (D.list 1 x7.Rest)], [C.d (D.int IntKind.i64 x8.Channels), C.d (D.list 1 x8.Data)], [C.d (D.int IntKind.i64 n9), C.own 82944 0]] [Tk.mk 0 false 21 1 r10])
noncomputable def ratio_divisor (a b : Int) : Option (List D) := Cf 206 [Arg.v [D.int IntKind.i64 a], Arg.v [D.int IntKind.i64 b]]
noncomputable def ratio_divisor_k96 (n0 n1 : Int) : Option (List D) := Kf 206 96 (Lv.mk [V.one (C.d (D.int IntKind.i64 n0)), V.one (C.d (D.int IntKind.i64 n1))] [] [])
noncomputable def offer_fine (a : Y.Box) : Option (List D) := Cf 212 [Arg.v a.enc]
noncomputable def offer_fine_k232 (l0 : List (List D)) (n1 n2 : Int) (x3 : Y.Box) : Option (List D) := Kf 212 232 (Lv.mk [V.one (C.ptr 1024 0 0), V.one (C.d (D.list 1 l0)), V.one (C.d (D.int IntKind.i64 n1)), V.one (C.d (D.int IntKind.i64 n2))] [[C.d (D.int IntKind.i64 x3.Kinds), C.d (D.list 2 x3.Rates.Spans), C.d (D.list 1 x3.Maps), C.d (D.list 2 x3.Sizes.Spans)]] [])
noncomputable def phase_New (a : Y.Ratio) : Option (List D) := Cf 221 [Arg.v a.enc]
noncomputable def phase_Valid (a : Y.Phase) : Option (List D) := Cf 229 [Arg.v a.enc]
noncomputable def phase_Need (a : Y.Phase) (b : Int) : Option (List D) := Cf 236 [Arg.v a.enc, Arg.v [D.int IntKind.i64 b]]
noncomputable def ref10_away (a b : Int) : Option (List D) := Cf 242 [Arg.v [D.int IntKind.i64 a], Arg.v [D.int IntKind.i64 b]]
noncomputable def ref15_between (a b c d : Int) : Option (List D) := Cf 248 [Arg.v [D.int IntKind.i32 a], Arg.v [D.int IntKind.i32 b], Arg.v [D.int IntKind.i64 c], Arg.v [D.int IntKind.i64 d]]
noncomputable def offer_within (a : Y.IntSet) (b c : Int) : Option (List D) := Cf 254 [Arg.v a.enc, Arg.v [D.int IntKind.i64 b], Arg.v [D.int IntKind.i64 c]]
noncomputable def phase_ahead (a : Y.Phase) (b : Int) : Option (List D) := Cf 262 [Arg.v a.enc, Arg.v [D.int IntKind.i64 b]]
noncomputable def ref06_Index (a : List (List D)) (b : Int) : Option (List D) := Cf 268 [Arg.v [D.list 1 a], Arg.v [D.int IntKind.i64 b]]
noncomputable def ref06_Index_k104 (n0 : Int) (l1 : List (List D)) (n2 n3 : Int) : Option (List D) := Kf 268 104 (Lv.mk [V.one (C.d (D.int IntKind.i64 n0)), V.one (C.d (D.list 1 l1)), V.one (C.d (D.int IntKind.i64 n2)), V.one (C.d (D.int IntKind.i64 n3))] [] [])
noncomputable def slices_Index_G_int_int (a : List (List D)) (b : Int) : Option (List D) := Cf 274 [Arg.v [D.list 1 a], Arg.v [D.int IntKind.i64 b]]
noncomputable def slices_Index_G_int_int_k104 (l0 : List (List D)) (n1 n2 n3 : Int) : Option (List D) := Kf 274 104 (Lv.mk [V.one (C.d (D.list 1 l0)), V.one (C.d (D.int IntKind.i64 n1)), V.one (C.d (D.int IntKind.i64 n2)), V.one (C.d (D.int IntKind.i64 n3))] [] [])
noncomputable def slices_Concat_G_int32_int32 (a : List (List D)) : Option (List D) := Cf 222 [Arg.v [D.list 1 a]]
noncomputable def slices_Concat_G_int32_int32_k232 (l0 : List (List D)) (n1 : Int) (l2 : List (List D)) (n3 n4 : Int) : Option (List D) := Kf 222 232 (Lv.mk [V.one (C.d (D.list 1 l0)), V.one (C.d (D.int IntKind.i64 n1)), V.one (C.d (D.list 1 l2)), V.one (C.d (D.int IntKind.i64 n3)), V.one (C.d (D.int IntKind.i64 n4))] [] [])
noncomputable def slices_Concat_G_int32_int32_k1000 (l0 : List (List D)) (n1 n2 : Int) (r3 : List (List D)) : Option (List D) := Kf 222 1000 (Lv.mk [V.one (C.own 6144 0), V.one (C.d (D.list 1 l0)), V.one (C.d (D.int IntKind.i64 n1)), V.one (C.d (D.int IntKind.i64 n2))] [] [Tk.mk 0 false 21 1 r3])
noncomputable def slices_Grow_G__nil (b : Int) : Option (List D) := Cf 100005 [Arg.v [], Arg.v [D.int IntKind.i64 b]]
end Go.Vm
