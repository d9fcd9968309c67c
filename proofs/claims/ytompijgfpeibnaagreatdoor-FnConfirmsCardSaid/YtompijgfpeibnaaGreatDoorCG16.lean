/-
 The functions' tables; what is known of a call by its run, from calls that are known. Written by a program; no condition.
-/
import Derived.Test.YtompijgfpeibnaaGreatDoorCG15
import Derived.Test.YtompijgfpeibnaaGreatDoorCB7
import Derived.Test.YtompijgfpeibnaaGreatDoorCG9
namespace Go.Proofs.YtompijgfpeibnaaGreatDoor.Ax
open Go Go.RowKit
noncomputable def lbF (k : Nat) : Nat → List Bool := Nat.rec (motive := fun _ => Nat → List Bool) (fun _ => []) (fun _ ih n => bif Nat.ble n 1 then [] else Nat.beq (n % 2) 1 :: ih (n / 2)) k
noncomputable def lb (n : Nat) : List Bool := lbF 400 n
noncomputable def bzF (k : Nat) : Nat → List UInt8 := Nat.rec (motive := fun _ => Nat → List UInt8) (fun _ => []) (fun _ ih n => bif Nat.beq n 0 then [] else UInt8.ofNat (n % 256) :: ih (n / 256)) k
noncomputable def bz (n : Nat) : List UInt8 := bzF 100 n
def jl : List (List UInt8) → List UInt8
 | [] => []
 | x :: l => x ++ 10 :: jl l
def jn : List (List UInt8) → List UInt8
 | [] => []
 | [x] => x
 | x :: l => x ++ 10 :: jn l
noncomputable def fiTab : List (FuncId × Kd × Fi) := [
 (0, .g, ⟨lb 1, [], []⟩),
 (1, .g, ⟨lb 1, [], []⟩),
 (2, .g, ⟨lb 1, [], []⟩),
 (3, .g, ⟨lb 1629, [(6, ⟨[(17, 19), (18, 19)], [0, 0, 0, 0, 0, 0, 0, 0, 0, 0, 0, 0, 0, 0, 0, 0, 0, 0, 0, 1], []⟩)], []⟩),
 (4, .g, ⟨lb 12888854461, [], []⟩),
 (5, .g, ⟨lb 115, [], []⟩),
 (6, .g, ⟨lb 6444451709, [], []⟩),
 (7, .g, ⟨lb 13, [], []⟩),
 (8, .g, ⟨lb 12301, [], []⟩),
 (9, .g, ⟨lb 13, [], []⟩),
 (10, .g, ⟨lb 7, [], []⟩),
 (11, .g, ⟨lb 26389352941559, [], [(1, [2])]⟩),
 (12, .g, ⟨lb 51, [], []⟩),
 (13, .g, ⟨lb 6259, [], []⟩),
 (14, .g, ⟨lb 51539607565, [(2, ⟨[(1, 6), (2, 6), (3, 6), (4, 6), (1, 7), (1, 8), (1, 9)], [], []⟩), (3, ⟨[(1, 5), (2, 5), (3, 5), (1, 6), (1, 7), (1, 8)], [], []⟩), (4, ⟨[(2, 6), (3, 6), (4, 6), (2, 7), (2, 8)], [], []⟩)], []⟩),
 (15, .g, ⟨lb 115, [], []⟩),
 (16, .g, ⟨lb 13, [(1, ⟨[(1, 6), (2, 6), (3, 6), (4, 6), (1, 7), (4, 7), (1, 8), (4, 8), (1, 9), (4, 9)], [], []⟩)], []⟩),
 (17, .g, ⟨lb 13, [], []⟩),
 (18, .g, ⟨lb 51, [], []⟩),
 (19, .g, ⟨lb 13, [], []⟩),
 (20, .g, ⟨lb 196723, [], []⟩),
 (21, .g, ⟨lb 98333, [], []⟩),
 (22, .g, ⟨lb 216172885197238141, [], []⟩),
 (23, .g, ⟨lb 31791, [(5, ⟨[(0, 8), (1, 8)], [0, 0, 0, 0, 1, 0, 0, 0, 1, 2], []⟩)], [(1, [1])]⟩),
 (24, .g, ⟨lb 243, [], []⟩),
 (25, .g, ⟨lb 15576890575604482885591491135209423, [], [(1, [3])]⟩),
 (26, .g, ⟨lb 285925104339329791411, [], []⟩),
 (27, .g, ⟨lb 1572929, [], []⟩),
 (28, .g, ⟨lb 13, [], []⟩),
 (29, .g, ⟨lb 6665790336783, [], []⟩),
 (30, .g, ⟨lb 51, [], []⟩),
 (31, .g, ⟨lb 13811, [], []⟩),
 (32, .g, ⟨lb 99381, [], []⟩),
 (33, .g, ⟨lb 115, [], []⟩),
 (34, .g, ⟨lb 786493, [], []⟩),
 (35, .g, ⟨lb 49207, [], [(1, [2])]⟩),
 (36, .g, ⟨lb 51, [], []⟩),
 (37, .g, ⟨lb 100670781, [], []⟩),
 (38, .g, ⟨lb 53, [], []⟩),
 (39, .g, ⟨lb 12531, [(3, ⟨[], [], []⟩)], []⟩),
 (40, .g, ⟨lb 54043350149268349, [], []⟩),
 (41, .g, ⟨lb 1583, [(5, ⟨[], [0, 0, 0, 0, 0, 1, 0, 0, 1], []⟩)], [(1, [1])]⟩),
 (42, .g, ⟨lb 61, [], []⟩),
 (43, .g, ⟨lb 7, [(1, ⟨[(0, 2), (2, 5), (2, 6)], [0, 0, 0, 0, 0, 0, 0, 2], []⟩)], []⟩),
 (44, .g, ⟨lb 855, [], [(1, [4])]⟩),
 (45, .g, ⟨lb 49215, [], [(1, [2, 3])]⟩),
 (46, .g, ⟨lb 61, [], []⟩),
 (47, .g, ⟨lb 7, [(1, ⟨[(0, 2)], [0, 0, 0, 0, 0, 2], []⟩)], []⟩),
 (48, .g, ⟨lb 31, [], [(1, [1])]⟩),
 (49, .g, ⟨lb 7, [(1, ⟨[(0, 2)], [0, 0, 0, 0, 0, 2], []⟩)], []⟩),
 (50, .g, ⟨lb 28334207970387839423455, [(7, ⟨[], [], []⟩), (14, ⟨[(0, 8), (1, 8)], [0, 0, 0, 0, 0, 0, 0, 0, 1, 2], []⟩)], [(1, [1])]⟩),
 (51, .g, ⟨lb 7, [], []⟩),
 (52, .g, ⟨lb 8130863, [(9, ⟨[], [0, 0, 0, 0, 0, 0, 0, 0, 0, 1, 1], []⟩)], [(1, [1])]⟩),
 (53, .g, ⟨lb 7, [], []⟩),
 (54, .g, ⟨lb 103, [(3, ⟨[], [0, 0, 0, 0, 0, 0, 0, 1, 0, 0, 1, 0, 1], []⟩)], [(1, [1])]⟩),
 (55, .g, ⟨lb 7, [], []⟩),
 (56, .g, ⟨lb 16173, [], []⟩),
 (57, .g, ⟨lb 3989823, [(10, ⟨[(4, 10), (5, 10)], [0, 0, 0, 0, 0, 0, 0, 0, 0, 0, 1, 2], []⟩)], [(1, [1])]⟩),
 (58, .g, ⟨lb 49181, [], []⟩),
 (59, .g, ⟨lb 7, [(1, ⟨[(0, 3), (1, 3)], [], []⟩)], []⟩),
 (60, .g, ⟨lb 8143355, [], [(1, [3])]⟩),
 (61, .g, ⟨lb 7, [(1, ⟨[(0, 3), (1, 3)], [], []⟩)], []⟩),
 (62, .g, ⟨lb 6298811, [], [(1, [3])]⟩),
 (63, .g, ⟨lb 7, [(1, ⟨[(0, 3), (1, 3)], [], []⟩)], []⟩),
 (64, .g, ⟨lb 26461293986811, [], [(1, [3])]⟩),
 (65, .g, ⟨lb 61, [], []⟩),
 (66, .g, ⟨lb 61, [], []⟩),
 (67, .g, ⟨lb 12317, [], []⟩),
 (68, .g, ⟨lb 7, [], []⟩),
 (69, .g, ⟨lb 101, [], []⟩),
 (70, .g, ⟨lb 61, [], []⟩),
 (71, .g, ⟨lb 7, [], []⟩),
 (72, .g, ⟨lb 1581, [], []⟩),
 (73, .g, ⟨lb 7, [], []⟩),
 (74, .g, ⟨lb 101, [], []⟩),
 (75, .g, ⟨lb 29, [], []⟩),
 (76, .g, ⟨lb 12317, [], []⟩),
 (77, .g, ⟨lb 781, [], []⟩),
 (78, .g, ⟨lb 781, [], []⟩),
 (79, .g, ⟨lb 6163, [], []⟩),
 (80, .g, ⟨lb 6291587, [(3, ⟨[(1, 6), (2, 6), (3, 6), (4, 6), (1, 7), (1, 8), (1, 9)], [], []⟩)], []⟩),
 (81, .g, ⟨lb 1, [], []⟩),
 (82, .g, ⟨lb 51548130035, [], []⟩),
 (83, .g, ⟨lb 26388312883955, [], []⟩),
 (84, .g, ⟨lb 50365043, [], []⟩),
 (85, .g, ⟨lb 51, [], []⟩),
 (86, .g, ⟨lb 1587, [], []⟩),
 (87, .g, ⟨lb 12349, [], []⟩),
 (88, .g, ⟨lb 12295, [], [(1, [1])]⟩),
 (89, .g, ⟨lb 255, [], [(1, [3, 4, 5])]⟩),
 (90, .g, ⟨lb 13, [], []⟩),
 (91, .g, ⟨lb 2096139401164437549432689498506090889953267, [], []⟩),
 (92, .g, ⟨lb 31, [], [(1, [1])]⟩),
 (93, .g, ⟨lb 103, [(3, ⟨[(0, 3), (1, 3), (2, 3), (3, 4), (3, 5), (3, 6)], [0, 0, 1, 1, 0, 0, 1, 1, 1], []⟩)], [(1, [1])]⟩),
 (94, .g, ⟨lb 110698478841035237375, [(4, ⟨[(0, 3), (2, 3), (0, 7), (3, 7)], [1, 0, 1, 1, 0, 1, 0, 1], []⟩), (9, ⟨[], [], []⟩), (13, ⟨[], [], []⟩)], [(1, [1])]⟩),
 (95, .g, ⟨lb 479, [], [(1, [1])]⟩),
 (96, .g, ⟨lb 16173, [], []⟩),
 (97, .g, ⟨lb 12644655, [], [(1, [1])]⟩),
 (98, .g, ⟨lb 61, [], []⟩),
 (99, .g, ⟨lb 201327231, [(4, ⟨[(0, 8), (1, 8)], [0, 0, 0, 0, 1, 0, 0, 0, 1, 2], []⟩)], [(1, [2, 3])]⟩),
 (100, .g, ⟨lb 55, [], [(1, [2])]⟩),
 (101, .g, ⟨lb 8136143, [(7, ⟨[(0, 9), (1, 9)], [0, 0, 0, 0, 0, 1, 0, 0, 0, 1, 2], []⟩)], [(1, [3])]⟩),
 (102, .g, ⟨lb 59, [], []⟩),
 (103, .g, ⟨lb 3330763916275, [], []⟩),
 (104, .g, ⟨lb 13, [(2, ⟨[(1, 5), (2, 5), (3, 5), (1, 6), (1, 7), (1, 8)], [], []⟩)], []⟩),
 (105, .g, ⟨lb 13, [], []⟩),
 (106, .g, ⟨lb 29, [], []⟩),
 (107, .g, ⟨lb 101, [], []⟩),
 (108, .g, ⟨lb 15, [], [(1, [1])]⟩),
 (109, .g, ⟨lb 98461, [], []⟩),
 (110, .g, ⟨lb 127293, [], []⟩),
 (111, .g, ⟨lb 103, [], [(1, [1])]⟩),
 (112, .g, ⟨lb 15, [], [(1, [1])]⟩),
 (113, .g, ⟨lb 805372063, [], [(1, [1])]⟩),
 (114, .g, ⟨lb 31, [], [(1, [1])]⟩),
 (115, .g, ⟨lb 207, [(1, ⟨[], [], []⟩)], [(1, [3])]⟩),
 (116, .g, ⟨lb 1603887, [], [(1, [1])]⟩),
 (117, .g, ⟨lb 1818415613585336830067611, [(5, ⟨[], [0, 0, 0, 1, 1], []⟩), (7, ⟨[], [0, 0, 0, 1, 1], []⟩), (9, ⟨[], [0, 0, 0, 1, 1], []⟩)], [(1, [3])]⟩),
 (118, .g, ⟨lb 6597070817239, [(5, ⟨[], [], []⟩)], [(1, [4])]⟩),
 (119, .g, ⟨lb 6203, [], [(1, [3])]⟩),
 (120, .g, ⟨lb 61, [], []⟩),
 (121, .g, ⟨lb 204999, [], []⟩),
 (122, .g, ⟨lb 1588423, [], []⟩),
 (123, .g, ⟨lb 477, [], []⟩),
 (124, .g, ⟨lb 13, [], []⟩),
 (125, .g, ⟨lb 65504493, [], []⟩),
 (126, .h, ⟨lb 103083280829, [], []⟩),
 (127, .g, ⟨lb 50338557, [], []⟩),
 (128, .g, ⟨lb 13, [], []⟩),
 (129, .g, ⟨lb 1770887447572551569395, [(12, ⟨[], [], []⟩)], []⟩),
 (130, .g, ⟨lb 3869, [], []⟩),
 (131, .g, ⟨lb 31, [], [(1, [1])]⟩),
 (132, .g, ⟨lb 15, [], [(1, [1])]⟩),
 (133, .g, ⟨lb 13, [], []⟩),
 (134, .g, ⟨lb 101, [], []⟩),
 (135, .g, ⟨lb 50455805, [], []⟩),
 (136, .g, ⟨lb 49267, [], []⟩),
 (137, .g, ⟨lb 6157, [], []⟩),
 (138, .g, ⟨lb 16173, [], []⟩),
 (139, .g, ⟨lb 996920996848358311268549325821124349, [(8, ⟨[], [], []⟩), (14, ⟨[], [], []⟩), (15, ⟨[], [], []⟩), (19, ⟨[(14, 16)], [0, 0, 0, 0, 0, 0, 0, 0, 0, 0, 0, 0, 0, 0, 0, 1], []⟩), (21, ⟨[(5, 6)], [], []⟩)], []⟩),
 (140, .g, ⟨lb 101, [], []⟩),
 (141, .g, ⟨lb 28246586213011574783, [(3, ⟨[(2, 7), (3, 7), (4, 7), (5, 7)], [0, 0, 0, 0, 0, 0, 1], []⟩)], [(1, [1])]⟩),
 (142, .g, ⟨lb 51, [(0, ⟨[(1, 10), (2, 10), (3, 10), (4, 10), (5, 10), (7, 10), (8, 10), (1, 11), (1, 12), (1, 13)], [0, 0, 0, 0, 0, 0, 0, 0, 1], []⟩)], []⟩),
 (143, .g, ⟨lb 53, [], []⟩),
 (144, .g, ⟨lb 29, [], []⟩),
 (145, .g, ⟨lb 8769010520883704963937907469403008838945245102067, [(7, ⟨[(5, 12), (10, 12)], [], []⟩), (8, ⟨[(5, 12), (10, 12)], [], []⟩), (9, ⟨[(5, 12), (10, 12)], [], []⟩), (10, ⟨[(5, 12), (10, 12)], [], []⟩), (17, ⟨[(5, 12), (10, 12)], [], []⟩), (18, ⟨[(5, 12), (10, 12)], [], []⟩), (23, ⟨[(5, 12), (10, 12)], [], []⟩)], []⟩),
 (146, .g, ⟨lb 60040092200488918899227098143, [], []⟩),
 (147, .g, ⟨lb 213, [], []⟩),
 (148, .g, ⟨lb 3085, [], []⟩),
 (149, .g, ⟨lb 1, [], []⟩),
 (150, .g, ⟨lb 51, [], []⟩),
 (151, .g, ⟨lb 221435115683893479293, [], []⟩),
 (152, .g, ⟨lb 51607247903, [], []⟩),
 (153, .g, ⟨lb 199, [], []⟩),
 (154, .g, ⟨lb 51, [], []⟩),
 (155, .g, ⟨lb 31, [], [(1, [2])]⟩),
 (156, .g, ⟨lb 51540623475, [], []⟩),
 (157, .g, ⟨lb 13202763041231, [], []⟩),
 (158, .g, ⟨lb 51, [], []⟩),
 (159, .g, ⟨lb 1, [], []⟩),
 (160, .g, ⟨lb 13, [], []⟩),
 (161, .g, ⟨lb 453347182373627883423731, [], []⟩),
 (162, .g, ⟨lb 55, [], [(1, [2])]⟩),
 (163, .g, ⟨lb 1041244013, [], []⟩),
 (164, .g, ⟨lb 2029, [], []⟩),
 (165, .g, ⟨lb 412383970803, [(9, ⟨[], [], []⟩)], []⟩),
 (166, .g, ⟨lb 197555, [], []⟩),
 (167, .g, ⟨lb 967, [], []⟩),
 (168, .g, ⟨lb 207, [(3, ⟨[], [0, 0, 1, 0, 0, 1], []⟩)], [(1, [1])]⟩),
 (169, .g, ⟨lb 127293, [], []⟩),
 (170, .g, ⟨lb 3298535809015, [(8, ⟨[], [], []⟩)], [(1, [2])]⟩),
 (171, .g, ⟨lb 51, [], []⟩),
 (172, .g, ⟨lb 196807, [(5, ⟨[], [0, 0, 0, 0, 0, 0, 1], []⟩)], []⟩),
 (173, .g, ⟨lb 1549, [(3, ⟨[], [], []⟩)], []⟩),
 (174, .g, ⟨lb 8321561789, [(7, ⟨[], [0, 0, 0, 0, 0, 0, 0, 1, 1, 1], []⟩)], [(8, [28])]⟩),
 (175, .g, ⟨lb 197555, [], []⟩),
 (176, .g, ⟨lb 27, [], []⟩),
 (177, .g, ⟨lb 50361395, [(6, ⟨[], [], []⟩)], []⟩),
 (178, .g, ⟨lb 794295, [], [(1, [2])]⟩),
 (179, .g, ⟨lb 12, [], []⟩),
 (180, .g, ⟨lb 6199, [], [(1, [2])]⟩),
 (181, .g, ⟨lb 103, [], []⟩),
 (182, .g, ⟨lb 207, [], [(1, [3])]⟩),
 (183, .g, ⟨lb 101, [], []⟩),
 (184, .g, ⟨lb 103079274359, [], [(1, [2])]⟩),
 (185, .g, ⟨lb 98589, [], []⟩),
 (186, .g, ⟨lb 412455050231, [], [(1, [2])]⟩),
 (187, .g, ⟨lb 27, [], []⟩),
 (188, .g, ⟨lb 16384183, [(7, ⟨[], [], []⟩)], [(1, [2])]⟩),
 (189, .g, ⟨lb 255, [], [(1, [3, 4, 5])]⟩),
 (190, .g, ⟨lb 49183, [], [(1, [2, 3])]⟩),
 (191, .g, ⟨lb 55, [], [(1, [2])]⟩),
 (192, .g, ⟨lb 13, [], []⟩),
 (193, .g, ⟨lb 15, [], [(1, [1])]⟩),
 (194, .g, ⟨lb 15, [], [(1, [1])]⟩),
 (195, .g, ⟨lb 197629, [], []⟩),
 (196, .g, ⟨lb 3989823, [(10, ⟨[], [], []⟩)], [(1, [1])]⟩),
 (197, .g, ⟨lb 417792319, [(3, ⟨[(2, 3), (2, 4)], [0, 0, 1, 0, 0, 1], []⟩), (11, ⟨[], [], []⟩)], [(1, [1])]⟩),
 (198, .g, ⟨lb 51539609919, [(5, ⟨[], [0, 0, 0, 1, 1], []⟩), (6, ⟨[], [], []⟩)], [(1, [1])]⟩),
 (199, .g, ⟨lb 101, [], []⟩),
 (200, .g, ⟨lb 15, [], [(1, [1])]⟩),
 (201, .g, ⟨lb 15, [], [(1, [1])]⟩),
 (202, .g, ⟨lb 15, [], [(1, [1])]⟩),
 (203, .g, ⟨lb 399, [], [(1, [1])]⟩),
 (204, .g, ⟨lb 31, [], [(1, [1])]⟩),
 (205, .g, ⟨lb 393855, [], [(1, [1])]⟩),
 (206, .g, ⟨lb 103582565847, [], [(1, [4])]⟩),
 (207, .g, ⟨lb 402653647, [(4, ⟨[], [0, 0, 0, 0, 1], []⟩)], [(1, [3])]⟩),
 (208, .g, ⟨lb 50338557, [], []⟩),
 (209, .g, ⟨lb 839, [], []⟩),
 (210, .g, ⟨lb 824665182707, [(7, ⟨[], [], []⟩)], []⟩),
 (211, .g, ⟨lb 51604621255, [], []⟩),
 (212, .g, ⟨lb 15, [], [(1, [1])]⟩),
 (213, .g, ⟨lb 2029, [], []⟩),
 (214, .o, ⟨lb 201335239, [], []⟩),
 (215, .g, ⟨lb 98461, [], []⟩),
 (216, .g, ⟨lb 1611141363, [], []⟩),
 (217, .g, ⟨lb 27, [], []⟩),
 (218, .g, ⟨lb 51, [], []⟩),
 (219, .g, ⟨lb 12583327, [], [(1, [4, 7])]⟩),
 (220, .g, ⟨lb 12888052731, [], [(1, [3])]⟩),
 (221, .g, ⟨lb 1576699, [], []⟩),
 (222, .g, ⟨lb 6356751, [], []⟩),
 (223, .g, ⟨lb 6685307, [], [(1, [3])]⟩),
 (224, .g, ⟨lb 27, [], []⟩),
 (225, .g, ⟨lb 6350707, [], []⟩),
 (226, .g, ⟨lb 3299071803519, [(2, ⟨[], [], []⟩), (5, ⟨[], [], []⟩)], [(1, [2, 3])]⟩),
 (227, .g, ⟨lb 200691, [], []⟩),
 (228, .g, ⟨lb 98323, [], []⟩),
 (229, .g, ⟨lb 267363818483, [], []⟩),
 (230, .g, ⟨lb 29, [], []⟩),
 (231, .g, ⟨lb 17126972313728054432562047190511407809530130429, [(29, ⟨[(12, 14)], [0, 0, 0, 0, 0, 0, 0, 0, 0, 0, 0, 0, 0, 1], []⟩), (37, ⟨[(11, 13)], [0, 0, 0, 0, 0, 0, 0, 0, 0, 0, 0, 0, 1], []⟩), (38, ⟨[(8, 10)], [0, 0, 0, 0, 0, 0, 0, 0, 0, 1], []⟩), (41, ⟨[(8, 10)], [], []⟩)], []⟩),
 (232, .g, ⟨lb 864691393803710837, [], []⟩),
 (233, .g, ⟨lb 2029, [], []⟩),
 (234, .g, ⟨lb 3077, [], []⟩),
 (235, .g, ⟨lb 30877, [(7, ⟨[], [0, 0, 0, 0, 0, 0, 0, 0, 0, 0, 0, 0, 0, 0, 0, 0, 1, 1], []⟩)], []⟩),
 (236, .g, ⟨lb 29, [], []⟩),
 (237, .g, ⟨lb 6755403467719667, [(3, ⟨[(6, 11), (7, 11), (8, 11)], [0, 0, 0, 0, 0, 0, 0, 0, 0, 1, 1], []⟩), (8, ⟨[], [], []⟩)], []⟩),
 (238, .g, ⟨lb 13, [], []⟩),
 (239, .g, ⟨lb 50335987, [(4, ⟨[], [0, 0, 0, 0, 0, 0, 0, 1], []⟩)], []⟩),
 (240, .g, ⟨lb 127, [], [(1, [2, 3])]⟩),
 (241, .g, ⟨lb 13, [], []⟩),
 (242, .g, ⟨lb 197555, [], []⟩),
 (243, .g, ⟨lb 223, [(1, ⟨[], [], []⟩)], []⟩),
 (244, .g, ⟨lb 2029, [], []⟩),
 (245, .g, ⟨lb 1, [], []⟩),
 (246, .g, ⟨lb 13, [], []⟩),
 (247, .g, ⟨lb 49429, [], []⟩),
 (248, .g, ⟨lb 29, [], []⟩),
 (249, .g, ⟨lb 13, [], []⟩),
 (250, .g, ⟨lb 13, [], []⟩),
 (251, .g, ⟨lb 950738139066551977033095782397, [], []⟩),
 (252, .g, ⟨lb 1775503623168075182023, [], []⟩),
 (253, .g, ⟨lb 51, [(1, ⟨[], [0, 0, 0, 0, 0, 1], []⟩)], []⟩),
 (254, .g, ⟨lb 51, [(1, ⟨[], [0, 0, 0, 0, 0, 1], []⟩)], []⟩),
 (255, .g, ⟨lb 199, [], []⟩),
 (256, .g, ⟨lb 199, [], []⟩),
 (257, .g, ⟨lb 197555, [], []⟩),
 (258, .g, ⟨lb 1, [], []⟩),
 (259, .g, ⟨lb 3254784509, [], []⟩),
 (260, .g, ⟨lb 51, [], []⟩),
 (261, .g, ⟨lb 27, [], []⟩),
 (262, .g, ⟨lb 196691, [], []⟩),
 (263, .g, ⟨lb 2035, [], []⟩),
 (264, .g, ⟨lb 1041244013, [], []⟩),
 (265, .g, ⟨lb 103081110007, [], [(1, [2])]⟩),
 (266, .g, ⟨lb 13, [], []⟩),
 (267, .g, ⟨lb 53292474303219, [], []⟩),
 (268, .g, ⟨lb 55, [], []⟩),
 (269, .g, ⟨lb 31, [], [(1, [2])]⟩),
 (270, .g, ⟨lb 422214495110131, [], []⟩),
 (271, .g, ⟨lb 66824176567, [(10, ⟨[], [], []⟩)], [(1, [2])]⟩),
 (272, .g, ⟨lb 15987, [], []⟩),
 (273, .g, ⟨lb 13, [], []⟩),
 (274, .g, ⟨lb 27, [], []⟩),
 (275, .g, ⟨lb 27, [], []⟩),
 (276, .g, ⟨lb 1652851, [], []⟩),
 (277, .g, ⟨lb 6263, [], [(1, [2])]⟩),
 (278, .g, ⟨lb 412324991991, [(10, ⟨[], [], []⟩)], [(1, [2])]⟩),
 (279, .g, ⟨lb 103, [], []⟩),
 (280, .g, ⟨lb 255, [], [(1, [3, 4, 5])]⟩),
 (281, .g, ⟨lb 103, [], []⟩),
 (282, .g, ⟨lb 255, [], [(1, [3, 4, 5])]⟩),
 (283, .g, ⟨lb 16231, [], []⟩),
 (284, .g, ⟨lb 787535, [(6, ⟨[], [0, 0, 1], []⟩)], [(1, [1])]⟩),
 (285, .g, ⟨lb 30847, [(5, ⟨[], [], []⟩)], [(1, [2, 3])]⟩),
 (286, .g, ⟨lb 57422865591930653183, [(12, ⟨[], [], []⟩), (25, ⟨[], [], []⟩)], [(1, [1])]⟩),
 (287, .g, ⟨lb 103, [(1, ⟨[], [], []⟩)], []⟩),
 (288, .g, ⟨lb 6757461060807039, [(19, ⟨[], [], []⟩)], [(1, [1])]⟩),
 (289, .g, ⟨lb 63, [], [(1, [3])]⟩),
 (290, .g, ⟨lb 55, [(1, ⟨[], [], []⟩)], []⟩),
 (291, .g, ⟨lb 215, [], [(1, [4])]⟩),
 (292, .g, ⟨lb 824637658839, [], [(1, [4])]⟩),
 (293, .g, ⟨lb 787, [], []⟩),
 (294, .g, ⟨lb 1040450247, [], []⟩),
 (295, .g, ⟨lb 51, [], []⟩),
 (296, .g, ⟨lb 51, [], []⟩),
 (297, .g, ⟨lb 51, [], []⟩),
 (298, .g, ⟨lb 831, [], [(1, [2])]⟩),
 (299, .g, ⟨lb 13, [], []⟩),
 (300, .g, ⟨lb 7605903743040370913761273321407, [(1, ⟨[], [], []⟩), (2, ⟨[], [], []⟩), (6, ⟨[], [], []⟩)], []⟩),
 (301, .g, ⟨lb 51, [], []⟩),
 (302, .g, ⟨lb 211239376519283, [(1, ⟨[], [], []⟩)], []⟩),
 (303, .g, ⟨lb 59, [], [(1, [3])]⟩),
 (304, .g, ⟨lb 55, [], []⟩),
 (305, .g, ⟨lb 247, [], [(1, [4, 5])]⟩),
 (306, .g, ⟨lb 255, [], [(1, [3, 4, 5])]⟩),
 (307, .g, ⟨lb 103348183027, [], []⟩),
 (308, .g, ⟨lb 783, [], []⟩),
 (309, .g, ⟨lb 3146237, [], []⟩),
 (310, .g, ⟨lb 13, [], []⟩),
 (311, .g, ⟨lb 113484369543402354642931, [(13, ⟨[], [], []⟩)], []⟩),
 (312, .g, ⟨lb 12885550269, [], []⟩),
 (313, .g, ⟨lb 412383970803, [(9, ⟨[], [], []⟩)], []⟩),
 (314, .g, ⟨lb 786495, [], [(1, [2, 3])]⟩),
 (315, .g, ⟨lb 63, [], [(1, [2, 3])]⟩),
 (316, .g, ⟨lb 24639, [], [(1, [2, 3])]⟩),
 (317, .g, ⟨lb 51, [], []⟩),
 (318, .g, ⟨lb 15, [], [(1, [1])]⟩),
 (319, .g, ⟨lb 15, [], [(1, [1])]⟩),
 (320, .g, ⟨lb 61, [(2, ⟨[], [], []⟩)], []⟩),
 (321, .g, ⟨lb 399, [(5, ⟨[], [], []⟩)], [(1, [1])]⟩),
 (322, .m 0, ⟨lb 7, [], []⟩),
 (323, .g, ⟨lb 207, [(1, ⟨[], [], []⟩)], []⟩),
 (324, .g, ⟨lb 49423, [], []⟩),
 (325, .g, ⟨lb 211, [(2, ⟨[], [], []⟩)], []⟩),
 (326, .g, ⟨lb 15, [], [(1, [1])]⟩),
 (327, .g, ⟨lb 53, [], []⟩),
 (328, .g, ⟨lb 53, [], []⟩),
 (329, .g, ⟨lb 2245597268720752719238741815945036671326366781390791, [], []⟩),
 (330, .g, ⟨lb 205, [], []⟩),
 (331, .g, ⟨lb 13, [], []⟩),
 (332, .g, ⟨lb 243, [], []⟩),
 (333, .g, ⟨lb 32755, [], []⟩),
 (334, .g, ⟨lb 196691, [], []⟩),
 (335, .g, ⟨lb 13, [(1, ⟨[], [], []⟩)], []⟩),
 (336, .g, ⟨lb 13, [], []⟩),
 (337, .g, ⟨lb 786451, [], []⟩),
 (338, .g, ⟨lb 13, [], []⟩),
 (339, .g, ⟨lb 103, [(1, ⟨[], [], []⟩)], []⟩),
 (340, .g, ⟨lb 63, [], [(1, [3])]⟩),
 (341, .g, ⟨lb 51, [], []⟩),
 (342, .g, ⟨lb 55, [], []⟩),
 (343, .g, ⟨lb 63, [], [(1, [3])]⟩),
 (344, .g, ⟨lb 55, [], []⟩),
 (345, .g, ⟨lb 55, [(1, ⟨[], [], []⟩)], []⟩),
 (346, .g, ⟨lb 7, [], []⟩),
 (347, .g, ⟨lb 103, [(1, ⟨[], [], []⟩)], []⟩),
 (348, .g, ⟨lb 1663, [], [(1, [3, 4, 5])]⟩),
 (349, .g, ⟨lb 59, [], [(1, [3])]⟩),
 (350, .g, ⟨lb 51, [], []⟩),
 (351, .v [0], ⟨lb 65012439, [], [(1, [4])]⟩),
 (352, .g, ⟨lb 51, [], []⟩),
 (353, .g, ⟨lb 1688850859034567, [(11, ⟨[], [], []⟩)], []⟩),
 (354, .g, ⟨lb 13, [], []⟩),
 (355, .g, ⟨lb 516807, [], []⟩),
 (356, .g, ⟨lb 51, [], []⟩),
 (357, .g, ⟨lb 51, [], []⟩),
 (358, .g, ⟨lb 3147763, [], []⟩),
 (359, .g, ⟨lb 101, [], []⟩),
 (360, .g, ⟨lb 13, [], []⟩),
 (361, .g, ⟨lb 101, [], []⟩),
 (362, .g, ⟨lb 27, [], []⟩),
 (363, .g, ⟨lb 55, [], []⟩),
 (364, .g, ⟨lb 25803366511, [(3, ⟨[], [], []⟩)], []⟩),
 (365, .g, ⟨lb 8179, [], []⟩),
 (366, .g, ⟨lb 12319, [], [(1, [2, 3])]⟩),
 (367, .g, ⟨lb 197555, [], []⟩),
 (368, .g, ⟨lb 201450685, [], []⟩),
 (369, .m 0, ⟨lb 54043230961935303, [], []⟩),
 (370, .g, ⟨lb 13, [], []⟩),
 (371, .g, ⟨lb 8211024166840646121858269245, [], []⟩),
 (372, .g, ⟨lb 50332723, [(4, ⟨[], [], []⟩)], []⟩),
 (373, .g, ⟨lb 51, [], []⟩),
 (374, .g, ⟨lb 54043230961935303, [], []⟩),
 (375, .g, ⟨lb 111, [(1, ⟨[], [], []⟩)], []⟩),
 (376, .g, ⟨lb 103, [(1, ⟨[], [], []⟩)], []⟩),
 (377, .g, ⟨lb 51, [], []⟩),
 (378, .g, ⟨lb 56297196512934975, [], [(1, [5])]⟩),
 (379, .g, ⟨lb 2029, [], []⟩),
 (380, .g, ⟨lb 32965213, [(10, ⟨[(4, 10), (5, 10)], [0, 0, 0, 0, 0, 0, 0, 0, 0, 0, 1, 2], []⟩)], []⟩),
 (381, .m 0, ⟨lb 51539624719, [(4, ⟨[], [], []⟩), (6, ⟨[(4, 15)], [], []⟩)], []⟩),
 (382, .g, ⟨lb 39492912893773924972774617701054304857756466706496729817290898463, [(5, ⟨[], [], []⟩), (11, ⟨[(4, 15)], [], []⟩), (17, ⟨[], [], []⟩), (23, ⟨[(4, 15)], [], []⟩), (35, ⟨[], [], []⟩)], []⟩),
 (383, .g, ⟨lb 51539624719, [(4, ⟨[], [], []⟩), (6, ⟨[(4, 15)], [], []⟩)], []⟩),
 (384, .g, ⟨lb 39492912893773924972774617701054304857756466706496729817290898463, [(5, ⟨[], [], []⟩), (11, ⟨[(4, 15)], [], []⟩), (17, ⟨[], [], []⟩), (23, ⟨[(4, 15)], [], []⟩), (35, ⟨[], [], []⟩)], []⟩),
 (385, .g, ⟨lb 25786585575, [], []⟩),
 (386, .g, ⟨lb 26217503, [], []⟩),
 (387, .g, ⟨lb 26217503, [], []⟩),
 (388, .g, ⟨lb 25615, [(3, ⟨[(7, 21)], [], []⟩)], []⟩),
 (389, .g, ⟨lb 25615, [(3, ⟨[(7, 21)], [], []⟩)], []⟩),
 (390, .g, ⟨lb 1, [], []⟩),
 (391, .g, ⟨lb 1, [], []⟩),
 (392, .g, ⟨lb 1, [], []⟩),
 (393, .g, ⟨lb 1, [], []⟩),
 (394, .g, ⟨lb 1, [], []⟩),
 (395, .g, ⟨lb 1, [], []⟩),
 (396, .g, ⟨lb 1, [], []⟩),
 (397, .g, ⟨lb 1, [], []⟩),
 (398, .g, ⟨lb 1, [], []⟩),
 (399, .g, ⟨lb 1, [], []⟩),
 (400, .g, ⟨lb 1, [], []⟩),
 (401, .g, ⟨lb 1, [], []⟩),
 (402, .g, ⟨lb 1, [], []⟩),
 (403, .g, ⟨lb 1, [], []⟩),
 (404, .g, ⟨lb 1, [], []⟩),
 (405, .g, ⟨lb 1, [], []⟩),
 (406, .g, ⟨lb 1, [], []⟩),
 (407, .g, ⟨lb 1, [], []⟩),
 (408, .g, ⟨lb 1, [], []⟩),
 (409, .g, ⟨lb 1, [], []⟩),
 (410, .g, ⟨lb 1, [], []⟩),
 (411, .g, ⟨lb 1, [], []⟩),
 (412, .g, ⟨lb 1, [], []⟩),
 (413, .g, ⟨lb 1, [], []⟩),
 (414, .g, ⟨lb 1, [], []⟩),
 (415, .g, ⟨lb 1, [], []⟩),
 (416, .g, ⟨lb 1, [], []⟩),
 (417, .g, ⟨lb 1, [], []⟩),
 (418, .g, ⟨lb 1, [], []⟩),
 (419, .g, ⟨lb 1, [], []⟩),
 (420, .g, ⟨lb 1, [], []⟩),
 (421, .g, ⟨lb 1, [], []⟩),
 (422, .g, ⟨lb 1, [], []⟩)]
noncomputable def fxOf (f : FuncId) : Option (List Bool) := (fiTab.find? fun p => p.1 == f).map fun p => p.2.2.live
def baseFs : List Nat := [17, 91, 84, 26, 34]
noncomputable def anW (tab : List Fact) : An := ⟨tyOf Tryz.prog, eqT, fun f args => match lkF f args tab with
 | some r => some r
 | none => baseL f args, fun _ _ => none, baseLV, fun _ _ => none, fun f => if (baseFs.contains f || tab.any fun x => x.f == f) = true then none else (fiTab.find? fun p => p.1 == f).map (·.2), 100000⟩
theorem anW_ok {tab : List Fact} (h : ∀ x ∈ tab, CallOk Tryz.prog x.f x.args x.r) : (anW tab).Ok Tryz.prog := by
 refine ⟨fun _ _ h => by simp only [anW] at h; exact tyOf_ok h, fun t n h => by simp only [anW] at h; exact eqOk t n h, fun f args r hr => ?_, fun _ _ _ _ _ h => by simp [anW] at h, baseLV_ok, fun _ _ _ _ h => by simp [anW] at h⟩
 simp only [anW] at hr
 split at hr
 ·rename_i r' e
  simp only [Option.some.injEq] at hr; subst hr
  exact lkF_ok h e
 ·exact baseL_ok _ _ _ hr
theorem runF {tab : List Fact} (h : ∀ x ∈ tab, CallOk Tryz.prog x.f x.args x.r) (n : Nat) {f : FuncId} {args : List AV} {r : AV} (e : runG Tryz.prog (anW tab) n f args = some r) : CallOk Tryz.prog f args r := runG_ok (anW_ok h) mixed n f args r e
noncomputable def xaW (tab tabH : List Fact) (al : List Nat) (S : CF) : XA := ⟨⟨tyOf Tryz.prog, eqT, fun f args => match lkF f args tab with
 | some r => some r
 | none => (match al.contains f with
  | true => runG Tryz.prog (anW tab) 40 f args
  | false => baseL f args), fun _ _ => none, fun _ _ => none, fun f args => (match lkF f args tabH with
 | some r => some (true, r)
 | none => none), true⟩, 5, S, fxOf, 100000⟩
theorem xaW_ok {tab tabH : List Fact} {al : List Nat} {S : CF} (h : ∀ x ∈ tab, CallOk Tryz.prog x.f x.args x.r) (h2 : ∀ x ∈ tabH, FrzOk Tryz.prog x.f x.args true x.r) : (xaW tab tabH al S).C.Ok Tryz.prog := by
 refine ⟨fun _ _ h => by simp only [xaW] at h; exact tyOf_ok h, fun t n h => by simp only [xaW] at h; exact eqOk t n h, fun f args r hr => ?_, fun _ _ _ _ _ h => by simp [xaW] at h, fun _ _ _ _ h => by simp [xaW] at h, fun f args sh r hr => ?_⟩
 ·simp only [xaW] at hr
  split at hr
  ·rename_i r' e
   simp only [Option.some.injEq] at hr; subst hr
   exact lkF_ok h e
  ·split at hr
   ·exact runF h 40 hr
   ·exact baseL_ok _ _ _ hr
 ·simp only [xaW] at hr
  split at hr
  ·rename_i r' e
   simp only [Option.some.injEq, Prod.mk.injEq] at hr
   obtain ⟨rfl, rfl⟩ := hr
   exact lkH_ok h2 e
  ·simp at hr
theorem frz_of_xcall2 {P : Program} {A : XA} (hC : A.C.Ok P) (hm : P.follows .mixedOrders = true) (hS : CFOk P A.S) (n d : Nat) {f : FuncId} {args : List AV} {r : AV} {st' : XS} (h : xcall P A n f args ⟨[], [], [], []⟩ = some (r, st')) : FrzOk P f args true (rsv st'.toks d r) := by
 obtain ⟨h1, h2⟩ := xcall_ok hC hm hS n _ _ _ _ _ h
 refine ⟨h1, fun w F vals hF hv => ?_⟩
 let E : XE := { F := F, n := 0, blk := fun _ => 0, sz := fun _ => 0 }
 have hs : XR ⟨F, w⟩ ⟨[], [], [], []⟩ E { tmps := #[], defers := [] } [] w :=
  ⟨rfl, ⟨by simp [XRepL], rfl, by simp⟩, by simp [XGh], fun t k ht => by simp at ht, fun t k ht => by simp at ht, fun t t' k k' ht => by simp at ht, hF.lt, fun b hb => .inl hb, hF.gl, Frm.refl _ _⟩
 refine (h2 ⟨F, w⟩ E _ [] w vals hs (XRepL.of_rep (E := E) _ _ hv)).mono fun e w' he => ?_
 obtain ⟨y, E', rfl, g1, g2⟩ := he
 refine ⟨y, allX st' E', rfl, g1.frame, fun b hb => ⟨?_, g1.allLt hb⟩, g1.rsv d _ _ g2⟩
 rcases hb with hb | ⟨t, k, ht, hk, rfl⟩
 ·rcases g1.fz b hb with h | h
  ·exact .inl ⟨rfl, h⟩
  ·exact .inr h
 ·exact .inr (g1.live t k ht hk).1
def xread (q : Option (AV × XS)) : Option AV := match q with
 | some (r, st) => some (rsv st.toks 6 r)
 | none => none
def noS : CF := fun _ _ _ => none
theorem noS_ok {P : Program} : CFOk P noS := fun _ _ _ _ _ h => by simp [noS] at h
theorem runX {tab tabH : List Fact} (al : List Nat) {S : CF} (h : ∀ x ∈ tab, CallOk Tryz.prog x.f x.args x.r) (h2 : ∀ x ∈ tabH, FrzOk Tryz.prog x.f x.args true x.r) (hS : CFOk Tryz.prog S) (n : Nat) {f : FuncId} {args : List AV} {r : AV} (e : xread (xcall Tryz.prog (xaW tab tabH al S) n f args ⟨[], [], [], []⟩) = some r) : FrzOk Tryz.prog f args true r := by
 unfold xread at e
 split at e
 ·rename_i r0 st e0
  simp only [Option.some.injEq] at e; subst e
  exact frz_of_xcall2 (xaW_ok h h2) mixed hS n 6 e0
 ·simp at e
theorem fcN {P : Program} : ∀ x ∈ ([] : List Fact), CallOk P x.f x.args x.r := by simp
theorem fcC {P : Program} {a : Fact} {l : List Fact} (h : CallOk P a.f a.args a.r) (hl : ∀ x ∈ l, CallOk P x.f x.args x.r) : ∀ x ∈ a :: l, CallOk P x.f x.args x.r := by
 intro x hx
 rcases List.mem_cons.1 hx with rfl | hx
 ·exact h
 ·exact hl x hx
theorem fhN {P : Program} : ∀ x ∈ ([] : List Fact), FrzOk P x.f x.args true x.r := by simp
theorem fhC {P : Program} {a : Fact} {l : List Fact} (h : FrzOk P a.f a.args true a.r) (hl : ∀ x ∈ l, FrzOk P x.f x.args true x.r) : ∀ x ∈ a :: l, FrzOk P x.f x.args true x.r := by
 intro x hx
 rcases List.mem_cons.1 hx with rfl | hx
 ·exact h
 ·exact hl x hx
def i (n : Int) : AV := .v (.int .i64 n)
def bo (b : Bool) : AV := .v (.bool b)
def is (l : List Int) : AV := .sl false 1 (l.map fun n => .v (.int .i64 n))
def bsv (l : List UInt8) : AV := .v (.string ⟨⟨l⟩⟩)
noncomputable def L_line : List UInt8 := bz 0x656e696c
noncomputable def L_margins : List UInt8 := bz 0x736e696772616d
noncomputable def L_rule1 : List UInt8 := bz 0x3120656c7572
noncomputable def L_rule2 : List UInt8 := bz 0x3220656c7572
noncomputable def L_rule3 : List UInt8 := bz 0x3320656c7572
noncomputable def L_rule4 : List UInt8 := bz 0x3420656c7572
noncomputable def L_rule13 : List UInt8 := bz 0x333120656c7572
noncomputable def L_spoiler : List UInt8 := bz 0x312072656c696f7073
noncomputable def L_axis : List UInt8 := bz 0x73697861
noncomputable def L_seats0 : List UInt8 := bz 0x303120322c362c362030207374616573
noncomputable def L_loss : List UInt8 := bz 0x303220322c362c3620302073736f6c
noncomputable def L_seats4 : List UInt8 := bz 0x3620332c372c30312034207374616573
noncomputable def L_round : List UInt8 := bz 0x352c353b35322c353120646e756f72
noncomputable def L_marry : List UInt8 := bz 0x6261206162207c20616220626120797272616d
noncomputable def L_houses : List UInt8 := bz 0x312c303b302c3120736573756f68
noncomputable def L_goods : List UInt8 := bz 0x342c342c313b322c332c352073646f6f67
noncomputable def L_auction : List UInt8 := bz 0x342c343b332c35206e6f6974637561
noncomputable def L_rent : List UInt8 := bz 0x342c343b332c3520303120746e6572
noncomputable def L_lottery : List UInt8 := bz 0x312c303b312c302079726574746f6c
noncomputable def L_heirs : List UInt8 := bz 0x30352c30353b30342c3036207372696568
noncomputable def L_cake : List UInt8 := bz 0x312c322c333b332c322c3120656b6163
noncomputable def L_vote : List UInt8 := bz 0x61626320322065746f76
noncomputable def L_what : List UInt8 := bz 0x74616877
noncomputable def O_line : List UInt8 := bz 0x636261207473656220322c312c3020706f7420312d2072656e6e6977203720737265746f76
noncomputable def O_margins : List UInt8 := bz 0x302c332d2c313b332c302c332d3b312d2c332c30
noncomputable def O_seats0 : List UInt8 := bz 0x61746f757120322c342c34
noncomputable def O_seats4 : List UInt8 := bz 0x61746f757120312c322c33
noncomputable def O_round : List UInt8 := bz 0x302c30313b30332c3031
noncomputable def O_marry : List UInt8 := bz 0x3220656c6261747320302c31206e656d6f7720312c30206e656d
noncomputable def O_houses : List UInt8 := bz 0x312c3020302c31
noncomputable def O_goods : List UInt8 := bz 0x31206565726620312c312c3020746375646f727020302c312c3020736e727574
noncomputable def O_auction : List UInt8 := bz 0x302c3020312c30
noncomputable def O_rent : List UInt8 := bz 0x352c3520312c30
noncomputable def O_lottery : List UInt8 := bz 0x322f312c322f3120322f312c322f31
noncomputable def O_heirs : List UInt8 := bz 0x302c31312f3031
noncomputable def O_cake : List UInt8 := bz 0x302c302c31
noncomputable def O_vote : List UInt8 := bz 0x6162632a32206261632a32206163622a32206362612a33
noncomputable def O_what : List UInt8 := bz 0x646e616d6d6f63206e776f6e6b6e75
noncomputable def p0 : AV := .agg [i 3, .sl false 2 [.agg [.sl false 1 [i 0, i 1, i 2], i 3], .agg [.sl false 1 [i 1, i 2, i 0], i 2], .agg [.sl false 1 [i 2, i 0, i 1], i 2]]]
noncomputable def p1 : AV := .agg [i 3, .sl false 2 [.agg [.sl false 1 [i 0, i 1, i 2], i 3], .agg [.sl false 1 [i 1, i 2, i 0], i 2], .agg [.sl false 1 [i 2, i 0, i 1], i 2], .agg [.sl false 1 [i 2, i 1, i 0], i 2]]]
open Go Go.RowKit
set_option linter.unusedSimpArgs false
def fiConf : Fi := ⟨[true, false, true, true, true, false, true, false, false, true], [(6, ⟨[(17, 19), (18, 19)], [0, 0, 0, 0, 0, 0, 0, 0, 0, 0, 0, 0, 0, 0, 0, 0, 0, 0, 0, 1], []⟩)], []⟩
noncomputable def confCode : Code := Tryz.f3.body.getD .skip
noncomputable def cR0 : Code := match confCode with
 | .seq x _ => x
 | c => c
noncomputable def cR1 : Code := match confCode with
 | .seq _ (.seq (.seq x _) _) => x
 | c => c
noncomputable def cR2 : Code := match confCode with
 | .seq _ (.seq (.seq _ (.cond _ x _)) _) => x
 | c => c
noncomputable def cR3 : Code := match confCode with
 | .seq _ (.seq _ (.seq x _)) => x
 | c => c
noncomputable def cR4 : Code := match confCode with
 | .seq _ (.seq _ (.seq _ x)) => x
 | c => c
theorem confCode_eq : confCode = .seq cR0 (.seq (.seq cR1 (.cond (.tmp 9) cR2 .skip)) (.seq cR3 cR4)) := by kernel_rfl
theorem confBody : bodyOf Tryz.prog fiConf [] 3 = some (Tryz.f3, confCode) := by kernel_rfl
theorem ex_seq {C : Ctx} {I : Fi} {n : Nat} {x y : Code} {st s : ASt} (h : exC C I n x st = some (.normal, s)) : exC C I n (.seq x y) st = exC C I n y s := by simp [exC, h]
theorem ex_reg {C : Ctx} {I : Fi} {n id : Nat} {ops : Array Oper} {d : Bool} {st f : ASt} (h : regrunQ C I.dt id ops.toList d (fzS I id st) = some f) : exC C I n (.region id ops d) st = some (.normal, clean I.live f) := by simp [exC, h, fStO_eq]
noncomputable def nT : Nat := Tryz.f3.ntmps
noncomputable def stA (x v : AV) : ASt := ⟨[x, .junk, .v (.bool false), v] ++ List.replicate (nT - 4) .junk, []⟩
theorem conf0 (C : Ctx) (nl : Bool) (l : List AV) : exC C fiConf 100 cR0 ⟨[.sl nl 1 l] ++ List.replicate (nT - 1) .junk, []⟩ = some (.normal, stA (.sl nl 1 l) .junk) := by kernel_rfl
def rOps (c : Code) : List Oper := match c with
 | .region _ ops _ => ops.toList
 | _ => []
theorem cR1_eq : cR1 = .region 1 (rOps cR1).toArray false := by kernel_rfl
theorem cR3_eq : cR3 = .region 3 (rOps cR3).toArray false := by kernel_rfl
noncomputable def stCB (x : AV) (b : Bool) : ASt := ⟨[x, .junk, .v (.bool false), .junk, .junk, .junk, .junk, .junk, .junk, .v (.bool b)] ++ List.replicate (nT - 10) .junk, []⟩
noncomputable def stDC (x : AV) (k : Int) : ASt := ⟨[x, .junk, .v (.bool false), .v (.int .i64 k), .junk, .junk, .junk, .junk, .junk, .v (.bool false)] ++ List.replicate (nT - 10) .junk, []⟩
theorem conf1 (C : Ctx) (hT : C.T = tyOf Tryz.prog) (nl : Bool) (l : List AV) : (regrunQ C fiConf.dt 1 (rOps cR1) false (fzS fiConf 1 (stA (.sl nl 1 l) .junk))).map (clean fiConf.live) = some (stCB (.sl nl 1 l) (decide ((1048576 : Int) < (l.length : Nat)))) := by
 rw [show rOps cR1 = (match Tryz.f3.body.getD .skip with
  | .seq _ (.seq (.seq x _) _) => rOps x
  | _ => []) from by kernel_rfl, regrunQ_eq]
 have hnT : nT = 147 := by kernel_rfl
 simp [Tryz.f3, rOps, regrun, stA, stCB, hnT, fzS, fzL, fiConf, List.range, List.range.loop, ints, intss, int, bool, row, frac, fracs, ← List.map_take, ← List.map_drop, hT]
theorem conf3 (C : Ctx) (hT : C.T = tyOf Tryz.prog) (nl : Bool) (l : List AV) (m : Int) (h0 : 0 ≤ m ∧ m ≤ 65535) (hG : C.G 5 [.sl nl 1 l, .v (.int .i64 1)] = some (.v (.int .i64 m))) : (regrunQ C fiConf.dt 3 (rOps cR3) false (fzS fiConf 3 (stCB (.sl nl 1 l) false))).map (clean fiConf.live) = some (stDC (.sl nl 1 l) (m % 5)) := by
 rw [show rOps cR3 = (match Tryz.f3.body.getD .skip with
  | .seq _ (.seq _ (.seq x _)) => rOps x
  | _ => []) from by kernel_rfl, regrunQ_eq]
 have hnT : nT = 147 := by kernel_rfl
 have hm : m.tmod 5 = m % 5 := Int.tmod_eq_emod_of_nonneg h0.1
 simp [Tryz.f3, rOps, regrun, stCB, stDC, hnT, fzS, fzL, fiConf, List.range, List.range.loop, ints, intss, int, bool, row, frac, fracs, ← List.map_take, ← List.map_drop, hG, hT, hm]
theorem conf2 (C : Ctx) (nl : Bool) (l : List AV) : (exC C fiConf 100 (.cond (.tmp 9) cR2 .skip) (stCB (.sl nl 1 l) true)) = some (.ret, ⟨[.sl nl 1 l, .junk, .v (.bool true), .junk, .junk, .junk, .junk, .junk, .junk, .v (.bool true)] ++ List.replicate (nT - 10) .junk, []⟩) := by kernel_rfl
theorem conf2' (C : Ctx) (nl : Bool) (l : List AV) : (exC C fiConf 100 (.cond (.tmp 9) cR2 .skip) (stCB (.sl nl 1 l) false)) = some (.normal, stCB (.sl nl 1 l) false) := by kernel_rfl
noncomputable def finG (C : Ctx) (q : Option (Exit × ASt)) : Option AV := match q with
 | some (e, s) => if isEnd e then (match resVars C s Tryz.f3.results.toList with
  | some q => if q.2.Nodup then some (pack q.1) else none
  | none => none) else none
 | none => none
theorem goG_conf (A : An) (hA : A.loops = 100) (C : Ctx) (nl : Bool) (l : List AV) : goG Tryz.prog A C fiConf 3 [.sl nl 1 l] = finG C (exC C fiConf 100 confCode ⟨[.sl nl 1 l] ++ List.replicate (nT - 1) .junk, []⟩) := by
 unfold goG finG
 rw [confBody, hA]
 kernel_rfl
theorem go_head (A : An) (hA : A.loops = 100) (C : Ctx) (hT : C.T = tyOf Tryz.prog) (nl : Bool) (l : List AV) : goG Tryz.prog A C fiConf 3 [.sl nl 1 l] = finG C (match exC C fiConf 100 (.cond (.tmp 9) cR2 .skip) (stCB (.sl nl 1 l) (decide ((1048576 : Int) < (l.length : Nat)))) with
  | some (.normal, s) => exC C fiConf 100 (.seq cR3 cR4) s
  | r => r) := by
 rw [goG_conf A hA, confCode_eq, ex_seq (conf0 C nl l)]
 have h1 := conf1 C hT nl l
 simp only [Option.map_eq_some_iff] at h1
 obtain ⟨f, hf, hfc⟩ := h1
 have hr : exC C fiConf 100 cR1 (stA (.sl nl 1 l) .junk) = some (.normal, stCB (.sl nl 1 l) (decide ((1048576 : Int) < (l.length : Nat)))) := by
  rw [cR1_eq, ← hfc]
  exact ex_reg (by simpa using hf)
 have e : exC C fiConf 100 (.seq cR1 (.cond (.tmp 9) cR2 .skip)) (stA (.sl nl 1 l) .junk) = exC C fiConf 100 (.cond (.tmp 9) cR2 .skip) (stCB (.sl nl 1 l) (decide ((1048576 : Int) < (l.length : Nat)))) := ex_seq hr
 conv => lhs; rw [exC]
 rw [e]
 generalize exC C fiConf 100 (.cond (.tmp 9) cR2 .skip) (stCB (.sl nl 1 l) (decide ((1048576 : Int) < (l.length : Nat)))) = q
 rcases q with _ | ⟨e, s⟩
 ·rfl
 ·cases e <;> rfl
theorem go_long (A : An) (hA : A.loops = 100) (C : Ctx) (hT : C.T = tyOf Tryz.prog) (nl : Bool) (l : List AV) (hl : 1048576 < l.length) : goG Tryz.prog A C fiConf 3 [.sl nl 1 l] = some (.v (.bool true)) := by
 rw [go_head A hA C hT, decide_eq_true (by omega), conf2]
 kernel_rfl
theorem go_short (A : An) (hA : A.loops = 100) (C : Ctx) (hT : C.T = tyOf Tryz.prog) (nl : Bool) (l : List AV) (hl : l.length ≤ 1048576) (m : Int) (h0 : 0 ≤ m ∧ m ≤ 65535) (hG : C.G 5 [.sl nl 1 l, .v (.int .i64 1)] = some (.v (.int .i64 m))) : goG Tryz.prog A C fiConf 3 [.sl nl 1 l] = finG C (exC C fiConf 100 cR4 (stDC (.sl nl 1 l) (m % 5))) := by
 rw [go_head A hA C hT, decide_eq_false (by omega), conf2']
 have h1 := conf3 C hT nl l m h0 hG
 simp only [Option.map_eq_some_iff] at h1
 obtain ⟨f, hf, hfc⟩ := h1
 have hr : exC C fiConf 100 cR3 (stCB (.sl nl 1 l) false) = some (.normal, stDC (.sl nl 1 l) (m % 5)) := by
  rw [cR3_eq, ← hfc]
  exact ex_reg (by simpa using hf)
 simp only
 rw [ex_seq hr]
end Go.Proofs.YtompijgfpeibnaaGreatDoor.Ax
