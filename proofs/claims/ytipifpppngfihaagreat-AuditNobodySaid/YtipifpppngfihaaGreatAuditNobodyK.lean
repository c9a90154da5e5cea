/- States of the run of 'awake'. -/
import Derived.Test.YtipifpppngfihaaGreatMaA
namespace Go.Proofs.YtipifpppngfihaaGreat.auditNobody
set_option maxHeartbeats 40000000
set_option maxRecDepth 10000000
open Go.Ab Go.Proofs.YtipifpppngfihaaGreat.ma
noncomputable def innK (f : Nat) : Bool := Nat.beq f 9 || Nat.beq f 8 || Nat.beq f 58
noncomputable def z0 : St1 := Go.Ab.begin 10 100000 [] h0
noncomputable def zap (a b : List (Nat × O)) : List (Nat × O) := List.append a b
noncomputable def per (l : List (Nat × O)) (g : Nat → List (Nat × O)) (n : Nat) : List (Nat × O) := Nat.rec l (fun m r => g m ++ r) n
noncomputable def z1 : St1 :=
⟨.c ⟨58, [1, 0]⟩, 99997, zt [(0, 1, .yield (.of 605)), (1, 1, zp 603 0), (2, 1, zp 604 0), (4, 3, zi 0)],
  .mk (.of 606) (zh (zap ([(0, .lst [zi 2, zi 1, zi 8, zi 1, zi 1, .bool false]),
    (1, .lst [zi 2, zi 1, zi 8, zi 1, zi 1, .bool false]),
    (2, .big 15 15 [zi 0, zi 0, zi 0, zi 0, zi 0, zi 0, zi 0, zi 0, zi 0, zi 0, zi 0, zi 0, .bool false, zi 0, zi 0] (zt [])),
    (3, .big 16 8 [zi 0, zi 0, zi 0, zi 0, zi 0, .bool false, zi 0, zi 0] (zt [])),
    (4, .big 20 1 [] (zt [(0, 1, zi 2), (1, 1, zi 1), (2, 1, zi 8), (3, 2, zi 1), (5, 1, .bool false), (6, 1, zp 6 0), (7, 1, .sl (.of 74) 0 2 2 (some 1)), (8, 1, zp 10 0), (9, 1, zp 12 0), (10, 1, .sl (.of 76) 0 2 2 (some 1)), (11, 1, .sl (.of 78) 0 2 2 (some 1)), (12, 1, .sl (.of 81) 0 1 1 (some 1)), (13, 1, zp 14 0), (14, 1, .sl (.of 2) 0 1 1 none), (15, 1, .sl (.of 3) 0 2 2 none), (16, 1, zi 0), (17, 3, .nils)])),
    (5, .big 160 10 [.int .u64 (.ofNat 0), .int .u64 (.ofNat 0), .int .u64 (.ofNat 0), .int .u64 (.ofNat 0), .int .u64 (.ofNat 0), .int .u64 (.ofNat 0), .int .u64 (.ofNat 0), .int .u64 (.ofNat 0), zi 0, zi 0] (zt [(8, 1, zi 1), (9, 1, zi 0), (88, 2, zi 1)])),
    (6, .lst [zi 2, zi 8, .sl (.of 5) 0 16 16 none]),
    (7, .mp []),
    (8, .mp []),
    (9, .mp []),
    (10, .lst [zi 2, zi 8, .map (.of 7), .map (.of 8), .map (.of 9)]),
    (11, .big 9 9 [zi 0, zi 0, zi 0, zi 0, zi 0, zi 0, zi 0, zi 0, zi 0] (zt [])),
    (12, .lst [.sl (.of 11) 0 1 1 none, zi 0, zi 0]),
    (13, .big 1 1 [.nils] (zt [])),
    (14, .lst [.sl (.of 13) 0 1 1 none, zi 0]),
    (15, .big 16 2 [zi 0, zi 0] (zt [(0, 1, zi 2), (1, 1, zi 0), (2, 1, zi 1), (3, 1, zi 0), (4, 2, zi 1), (8, 1, zi 1), (9, 1, zi 2)])),
    (16, .lst [zi 0, .sl (.of 15) 0 8 8 none]),
    (17, .lst [.bool true]),
    (18, .lst [zp 16 0]),
    (19, .lst [zi 1]),
    (20, .dead),
    (21, .lst [zi 1, zi 3]),
    (22, .mp []),
    (23, .lst [zp 6 0, zp 16 0, zi 0, zi 0, .sl (.of 35) 0 1 1 (some 1), .map (.of 22)]),
    (24, .lst [zi 1, zi 3])])
   (zap (per [] (fun m => [(1 * m + 25, .lst [zi 0, zi 0])]) 7)
   (zap ([(32, .lst [zi 1, zi 0]),
    (33, .lst [zi 1, zi 0]),
    (34, .lst [zi 0]),
    (35, .lst [zi 0]),
    (36, .lst [.nils, .bool true]),
    (37, .lst [zi 2, zp 36 0]),
    (38, .lst [zp 37 0, zp 23 0, zi 0]),
    (39, .mp []),
    (40, .lst [zi 0, zi 2, zi 1, .map (.of 39), .nils, .bool false, zi 0]),
    (41, .lst [zp 16 0]),
    (42, .dead),
    (43, .lst [zp 38 0]),
    (44, .dead),
    (45, .lst [zp 40 0]),
    (46, .dead),
    (47, .big 16 2 [zi 0, zi 0] (zt [(0, 1, zi 2), (1, 1, zi 0), (2, 1, zi 1), (3, 1, zi 0), (4, 2, zi 1), (8, 1, zi 1), (9, 1, zi 2)])),
    (48, .lst [zi 8, .sl (.of 47) 0 8 8 none]),
    (49, .lst [.bool true]),
    (50, .lst [zp 48 0]),
    (51, .lst [zi 1]),
    (52, .dead),
    (53, .lst [zi 1, zi 3]),
    (54, .mp []),
    (55, .lst [zp 6 0, zp 48 0, zi 1, zi 8, .sl (.of 67) 0 1 1 (some 1), .map (.of 54)]),
    (56, .lst [zi 1, zi 3])])
   (zap (per [] (fun m => [(1 * m + 57, .lst [zi 0, zi 0])]) 7)
   (zap ([(64, .lst [zi 1, zi 1]),
    (65, .lst [zi 1, zi 1]),
    (66, .lst [zi 8]),
    (67, .lst [zi 8]),
    (68, .lst [.nils, .bool true]),
    (69, .lst [zi 2, zp 68 0]),
    (70, .lst [zp 69 0, zp 55 0, zi 0]),
    (71, .mp []),
    (72, .lst [zi 1, zi 2, zi 1, .map (.of 71), .nils, .bool false, zi 0]),
    (73, .lst [zp 48 0]),
    (74, .lst [zp 16 0, zp 48 0]),
    (75, .lst [zp 70 0]),
    (76, .lst [zp 38 0, zp 70 0]),
    (77, .lst [zp 72 0]),
    (78, .lst [zp 40 0, zp 72 0]),
    (79, .big 259 1 [] (zt [(0, 3, zi 0), (3, 1, .bool false), (4, 3, zi 0), (7, 1, .bool false), (8, 3, zi 0), (11, 1, .bool false), (12, 3, zi 0), (15, 1, .bool false), (16, 3, zi 0), (19, 1, .bool false), (20, 3, zi 0), (23, 1, .bool false), (24, 3, zi 0), (27, 1, .bool false), (28, 3, zi 0), (31, 1, .bool false), (32, 3, zi 0), (35, 1, .bool false), (36, 3, zi 0), (39, 1, .bool false), (40, 3, zi 0), (43, 1, .bool false), (44, 3, zi 0), (47, 1, .bool false), (48, 3, zi 0), (51, 1, .bool false), (52, 3, zi 0), (55, 1, .bool false), (56, 3, zi 0), (59, 1, .bool false), (60, 3, zi 0), (63, 1, .bool false), (64, 3, zi 0), (67, 1, .bool false), (68, 3, zi 0), (71, 1, .bool false), (72, 3, zi 0), (75, 1, .bool false), (76, 3, zi 0), (79, 1, .bool false), (80, 3, zi 0), (83, 1, .bool false), (84, 3, zi 0), (87, 1, .bool false), (88, 3, zi 0), (91, 1, .bool false), (92, 3, zi 0), (95, 1, .bool false), (96, 3, zi 0), (99, 1, .bool false), (100, 3, zi 0), (103, 1, .bool false), (104, 3, zi 0), (107, 1, .bool false), (108, 3, zi 0), (111, 1, .bool false), (112, 3, zi 0), (115, 1, .bool false), (116, 3, zi 0), (119, 1, .bool false), (120, 3, zi 0), (123, 1, .bool false), (124, 3, zi 0), (127, 1, .bool false), (128, 3, zi 0), (131, 1, .bool false), (132, 3, zi 0), (135, 1, .bool false), (136, 3, zi 0), (139, 1, .bool false), (140, 3, zi 0), (143, 1, .bool false), (144, 3, zi 0), (147, 1, .bool false), (148, 3, zi 0), (151, 1, .bool false), (152, 3, zi 0), (155, 1, .bool false), (156, 3, zi 0), (159, 1, .bool false), (160, 3, zi 0), (163, 1, .bool false), (164, 3, zi 0), (167, 1, .bool false), (168, 3, zi 0), (171, 1, .bool false), (172, 3, zi 0), (175, 1, .bool false), (176, 3, zi 0), (179, 1, .bool false), (180, 3, zi 0), (183, 1, .bool false), (184, 3, zi 0), (187, 1, .bool false), (188, 3, zi 0), (191, 1, .bool false), (192, 3, zi 0), (195, 1, .bool false), (196, 3, zi 0), (199, 1, .bool false), (200, 3, zi 0), (203, 1, .bool false), (204, 3, zi 0), (207, 1, .bool false), (208, 3, zi 0), (211, 1, .bool false), (212, 3, zi 0), (215, 1, .bool false), (216, 3, zi 0), (219, 1, .bool false), (220, 3, zi 0), (223, 1, .bool false), (224, 3, zi 0), (227, 1, .bool false), (228, 3, zi 0), (231, 1, .bool false), (232, 3, zi 0), (235, 1, .bool false), (236, 3, zi 0), (239, 1, .bool false), (240, 3, zi 0), (243, 1, .bool false), (244, 3, zi 0), (247, 1, .bool false), (248, 3, zi 0), (251, 1, .bool false), (252, 3, zi 0), (255, 1, .bool false), (256, 2, zi 0), (258, 1, zi 1)])),
    (80, .lst [zp 79 0]),
    (81, .lst [zp 79 0]),
    (82, .lst [zi 14, zi 2, zi 0, zi 0]),
    (83, .lst [zi 14, zi 2, zi 0, zi 0]),
    (84, .lst [zi 2, zi 1, zi 8, zi 1, zi 1, .bool false]),
    (85, .lst [zi 7]),
    (86, .lst [zp 16 0]),
    (87, .lst [zi 1]),
    (88, .dead),
    (89, .lst [zi 2, zi 0]),
    (90, .lst [zi 1, zi 0]),
    (91, .lst [zi 1, zi 0]),
    (92, .lst [zi 1, zi 1]),
    (93, .lst [zi 2, zi 1]),
    (94, .lst [zi 0, zi 0]),
    (95, .lst [zi 1, zi 2]),
    (96, .lst [zi 4, zi 2]),
    (97, .lst [zi 0, zi 0]),
    (98, .lst [zi 0, zi 0]),
    (99, .lst [zi 0, zi 0]),
    (100, .big 10 1 [] (zt [(0, 8, .int .u64 (.ofNat 0)), (8, 1, zi 1), (9, 1, zi 0)]))])
   (zap (per [] (fun m => [(1 * m + 101, .big 10 1 [] (zt [(0, 8, .int .u64 (.ofNat 0)), (8, 2, zi 0)]))]) 7)
   (zap ([(108, .lst [zi 0, zi 0, zi 0, zi 0, zi 0, .bool false, zi 0, zi 0]),
    (109, .lst [zi 0, zi 0, zi 0, zi 0, zi 0, .bool false, zi 0, zi 0]),
    (110, .lst [zi 7]),
    (111, .lst [zp 48 0]),
    (112, .lst [zi 1]),
    (113, .dead),
    (114, .lst [zi 2, zi 0]),
    (115, .lst [zi 1, zi 0]),
    (116, .lst [zi 9, zi 0]),
    (117, .lst [zi 1, zi 1]),
    (118, .lst [zi 10, zi 1]),
    (119, .lst [zi 0, zi 0]),
    (120, .lst [zi 1, zi 2]),
    (121, .lst [zi 12, zi 2]),
    (122, .lst [zi 0, zi 0]),
    (123, .lst [zi 0, zi 0]),
    (124, .lst [zi 0, zi 0]),
    (125, .big 10 1 [] (zt [(0, 8, .int .u64 (.ofNat 0)), (8, 2, zi 1)]))])
   (zap (per [] (fun m => [(1 * m + 126, .big 10 1 [] (zt [(0, 8, .int .u64 (.ofNat 0)), (8, 2, zi 0)]))]) 7)
   (zap ([(133, .lst [zi 0, zi 0, zi 0, zi 0, zi 0, .bool false, zi 0, zi 0]),
    (134, .lst [zi 0, zi 0, zi 0, zi 0, zi 0, .bool false, zi 0, zi 0]),
    (135, .lst [zp 10 0]),
    (136, .dead),
    (137, .lst [.map (.of 9)]),
    (138, .lst [.nils]),
    (139, .dead),
    (140, .iter (some (.of 9))),
    (141, .lst [zi 14, zi 2, zi 0, zi 0]),
    (142, .lst [zi 2, zi 1, zi 8, zi 1, zi 1, .bool false]),
    (143, .lst [zi 2, zi 1, zi 8, zi 1, zi 1, .bool false]),
    (144, .big 16 1 [zi 0] (zt [(1, 7, zi 1), (9, 7, zi 1)])),
    (145, .lst [.sl (.of 144) 0 16 16 none]),
    (146, .lst [.fn 21 [] [zp 145 0]]),
    (147, .lst [zp 16 0]),
    (148, .lst [zi 1]),
    (149, .dead),
    (150, .lst [zi 2, zi 0]),
    (151, .lst [zi 1, zi 0]),
    (152, .lst [zi 1, zi 0]),
    (153, .lst [zi 1, zi 1]),
    (154, .lst [zi 2, zi 1]),
    (155, .lst [zi 0, zi 0]),
    (156, .lst [zi 1, zi 2]),
    (157, .lst [zi 4, zi 2]),
    (158, .lst [zi 0, zi 0]),
    (159, .lst [zi 0, zi 0]),
    (160, .lst [zi 0, zi 0]),
    (161, .lst [zi 0, zi 0, zi 0, zi 0, zi 0, .bool false, zi 0, zi 0]),
    (162, .lst [zi 0, zi 0, zi 0, zi 0, zi 0, .bool false, zi 0, zi 0]),
    (163, .lst [zp 48 0]),
    (164, .lst [zi 1]),
    (165, .dead),
    (166, .lst [zi 2, zi 0]),
    (167, .lst [zi 1, zi 0]),
    (168, .lst [zi 9, zi 0]),
    (169, .lst [zi 1, zi 1]),
    (170, .lst [zi 10, zi 1]),
    (171, .lst [zi 0, zi 0]),
    (172, .lst [zi 1, zi 2]),
    (173, .lst [zi 12, zi 2]),
    (174, .lst [zi 0, zi 0]),
    (175, .lst [zi 0, zi 0]),
    (176, .lst [zi 0, zi 0]),
    (177, .lst [zi 0, zi 0, zi 0, zi 0, zi 0, .bool false, zi 0, zi 0]),
    (178, .lst [zi 0, zi 0, zi 0, zi 0, zi 0, .bool false, zi 0, zi 0]),
    (179, .lst [zp 10 0]),
    (180, .dead),
    (181, .lst [.map (.of 9)]),
    (182, .lst [.nils]),
    (183, .dead),
    (184, .iter (some (.of 9))),
    (185, .lst [zi 1, zi 0]),
    (186, .lst [zi 1, zi 0])])
   (zap (per [] (fun m => [(1 * m + 187, .lst [zi 0, zi 0])]) 14)
   (zap ([(201, .lst [zi 1, zi 1]),
    (202, .lst [zi 1, zi 1])])
   (zap (per [] (fun m => [(1 * m + 203, .lst [zi 0, zi 0])]) 14)
   (zap ([(217, .lst [zi 2, zi 1, zi 8, zi 1, zi 1, .bool false]),
    (218, .lst [zp 38 0]),
    (219, .lst [.bool true]),
    (220, .lst [zp 23 0]),
    (221, .dead),
    (222, .lst [.yield (.of 221)]),
    (223, .lst [zp 23 0]),
    (224, .dead),
    (225, .lst [zi 0, zi 0]),
    (226, .lst [zi 0, zi 0])])
   (zap (per [] (fun m => [(1 * m + 227, .lst [.bool false, .bool false, .bool false, .bool false, .bool false, .bool false, .bool false, zi 0])]) 9)
   (zap ([(236, .lst [zi 0, zi 1]),
    (237, .lst [zi 0, zi 1])])
   (zap (per [] (fun m => [(1 * m + 238, .lst [.bool false, .bool false, .bool false, .bool false, .bool false, .bool false, .bool false, zi 0])]) 9)
   (zap ([(247, .lst [zi 0, zi 2]),
    (248, .lst [zi 0, zi 2])])
   (zap (per [] (fun m => [(1 * m + 249, .lst [.bool false, .bool false, .bool false, .bool false, .bool false, .bool false, .bool false, zi 0])]) 9)
   (zap ([(258, .lst [zi 0, zi 3]),
    (259, .lst [zi 0, zi 3])])
   (zap (per [] (fun m => [(1 * m + 260, .lst [.bool false, .bool false, .bool false, .bool false, .bool false, .bool false, .bool false, zi 0])]) 9)
   (zap ([(269, .lst [zi 0, zi 4]),
    (270, .lst [zi 0, zi 4])])
   (zap (per [] (fun m => [(1 * m + 271, .lst [.bool false, .bool false, .bool false, .bool false, .bool false, .bool false, .bool false, zi 0])]) 9)
   (zap ([(280, .lst [zi 0, zi 5]),
    (281, .lst [zi 0, zi 5])])
   (zap (per [] (fun m => [(1 * m + 282, .lst [.bool false, .bool false, .bool false, .bool false, .bool false, .bool false, .bool false, zi 0])]) 9)
   (zap ([(291, .lst [zi 0, zi 6]),
    (292, .lst [zi 0, zi 6])])
   (zap (per [] (fun m => [(1 * m + 293, .lst [.bool false, .bool false, .bool false, .bool false, .bool false, .bool false, .bool false, zi 0])]) 9)
   (zap ([(302, .lst [zi 0, zi 7]),
    (303, .lst [zi 0, zi 7])])
   (zap (per [] (fun m => [(1 * m + 304, .lst [.bool false, .bool false, .bool false, .bool false, .bool false, .bool false, .bool false, zi 0])]) 9)
   (zap ([(313, .lst [zp 70 0]),
    (314, .lst [.bool true]),
    (315, .lst [zp 55 0]),
    (316, .dead),
    (317, .lst [.yield (.of 316)]),
    (318, .lst [zp 55 0]),
    (319, .dead),
    (320, .lst [zi 8, zi 0]),
    (321, .lst [zi 8, zi 0])])
   (zap (per [] (fun m => [(1 * m + 322, .lst [.bool false, .bool false, .bool false, .bool false, .bool false, .bool false, .bool false, zi 0])]) 9)
   (zap ([(331, .lst [zi 8, zi 1]),
    (332, .lst [zi 8, zi 1])])
   (zap (per [] (fun m => [(1 * m + 333, .lst [.bool false, .bool false, .bool false, .bool false, .bool false, .bool false, .bool false, zi 0])]) 9)
   (zap ([(342, .lst [zi 8, zi 2]),
    (343, .lst [zi 8, zi 2])])
   (zap (per [] (fun m => [(1 * m + 344, .lst [.bool false, .bool false, .bool false, .bool false, .bool false, .bool false, .bool false, zi 0])]) 9)
   (zap ([(353, .lst [zi 8, zi 3]),
    (354, .lst [zi 8, zi 3])])
   (zap (per [] (fun m => [(1 * m + 355, .lst [.bool false, .bool false, .bool false, .bool false, .bool false, .bool false, .bool false, zi 0])]) 9)
   (zap ([(364, .lst [zi 8, zi 4]),
    (365, .lst [zi 8, zi 4])])
   (zap (per [] (fun m => [(1 * m + 366, .lst [.bool false, .bool false, .bool false, .bool false, .bool false, .bool false, .bool false, zi 0])]) 9)
   (zap ([(375, .lst [zi 8, zi 5]),
    (376, .lst [zi 8, zi 5])])
   (zap (per [] (fun m => [(1 * m + 377, .lst [.bool false, .bool false, .bool false, .bool false, .bool false, .bool false, .bool false, zi 0])]) 9)
   (zap ([(386, .lst [zi 8, zi 6]),
    (387, .lst [zi 8, zi 6])])
   (zap (per [] (fun m => [(1 * m + 388, .lst [.bool false, .bool false, .bool false, .bool false, .bool false, .bool false, .bool false, zi 0])]) 9)
   (zap ([(397, .lst [zi 8, zi 7]),
    (398, .lst [zi 8, zi 7])])
   (zap (per [] (fun m => [(1 * m + 399, .lst [.bool false, .bool false, .bool false, .bool false, .bool false, .bool false, .bool false, zi 0])]) 9)
   (zap ([(408, .lst [zp 4 0]),
    (409, .lst [.fn 32 [] [zp 408 0]]),
    (410, .lst [.bool true]),
    (411, .lst [zi 2, zi 1, zi 8, zi 1, zi 1, .bool false]),
    (412, .lst [zp 23 0]),
    (413, .dead),
    (414, .lst [.yield (.of 413)]),
    (415, .lst [zp 23 0]),
    (416, .dead),
    (417, .lst [zi 0, zi 0]),
    (418, .lst [zi 0, zi 0])])
   (zap (per [] (fun m => [(1 * m + 419, .lst [.bool false, .bool false, .bool false, .bool false, .bool false, .bool false, .bool false, zi 0])]) 9)
   (zap ([(428, .lst [zi 0, zi 1]),
    (429, .lst [zi 0, zi 1])])
   (zap (per [] (fun m => [(1 * m + 430, .lst [.bool false, .bool false, .bool false, .bool false, .bool false, .bool false, .bool false, zi 0])]) 9)
   (zap ([(439, .lst [zi 0, zi 2]),
    (440, .lst [zi 0, zi 2])])
   (zap (per [] (fun m => [(1 * m + 441, .lst [.bool false, .bool false, .bool false, .bool false, .bool false, .bool false, .bool false, zi 0])]) 9)
   (zap ([(450, .lst [zi 0, zi 3]),
    (451, .lst [zi 0, zi 3])])
   (zap (per [] (fun m => [(1 * m + 452, .lst [.bool false, .bool false, .bool false, .bool false, .bool false, .bool false, .bool false, zi 0])]) 9)
   (zap ([(461, .lst [zi 0, zi 4]),
    (462, .lst [zi 0, zi 4])])
   (zap (per [] (fun m => [(1 * m + 463, .lst [.bool false, .bool false, .bool false, .bool false, .bool false, .bool false, .bool false, zi 0])]) 9)
   (zap ([(472, .lst [zi 0, zi 5]),
    (473, .lst [zi 0, zi 5])])
   (zap (per [] (fun m => [(1 * m + 474, .lst [.bool false, .bool false, .bool false, .bool false, .bool false, .bool false, .bool false, zi 0])]) 9)
   (zap ([(483, .lst [zi 0, zi 6]),
    (484, .lst [zi 0, zi 6])])
   (zap (per [] (fun m => [(1 * m + 485, .lst [.bool false, .bool false, .bool false, .bool false, .bool false, .bool false, .bool false, zi 0])]) 9)
   (zap ([(494, .lst [zi 0, zi 7]),
    (495, .lst [zi 0, zi 7])])
   (zap (per [] (fun m => [(1 * m + 496, .lst [.bool false, .bool false, .bool false, .bool false, .bool false, .bool false, .bool false, zi 0])]) 9)
   (zap ([(505, .lst [zp 55 0]),
    (506, .dead),
    (507, .lst [.yield (.of 506)]),
    (508, .lst [zp 55 0]),
    (509, .dead),
    (510, .lst [zi 8, zi 0]),
    (511, .lst [zi 8, zi 0])])
   (zap (per [] (fun m => [(1 * m + 512, .lst [.bool false, .bool false, .bool false, .bool false, .bool false, .bool false, .bool false, zi 0])]) 9)
   (zap ([(521, .lst [zi 8, zi 1]),
    (522, .lst [zi 8, zi 1])])
   (zap (per [] (fun m => [(1 * m + 523, .lst [.bool false, .bool false, .bool false, .bool false, .bool false, .bool false, .bool false, zi 0])]) 9)
   (zap ([(532, .lst [zi 8, zi 2]),
    (533, .lst [zi 8, zi 2])])
   (zap (per [] (fun m => [(1 * m + 534, .lst [.bool false, .bool false, .bool false, .bool false, .bool false, .bool false, .bool false, zi 0])]) 9)
   (zap ([(543, .lst [zi 8, zi 3]),
    (544, .lst [zi 8, zi 3])])
   (zap (per [] (fun m => [(1 * m + 545, .lst [.bool false, .bool false, .bool false, .bool false, .bool false, .bool false, .bool false, zi 0])]) 9)
   (zap ([(554, .lst [zi 8, zi 4]),
    (555, .lst [zi 8, zi 4])])
   (zap (per [] (fun m => [(1 * m + 556, .lst [.bool false, .bool false, .bool false, .bool false, .bool false, .bool false, .bool false, zi 0])]) 9)
   (zap ([(565, .lst [zi 8, zi 5]),
    (566, .lst [zi 8, zi 5])])
   (zap (per [] (fun m => [(1 * m + 567, .lst [.bool false, .bool false, .bool false, .bool false, .bool false, .bool false, .bool false, zi 0])]) 9)
   (zap ([(576, .lst [zi 8, zi 6]),
    (577, .lst [zi 8, zi 6])])
   (zap (per [] (fun m => [(1 * m + 578, .lst [.bool false, .bool false, .bool false, .bool false, .bool false, .bool false, .bool false, zi 0])]) 9)
   (zap ([(587, .lst [zi 8, zi 7]),
    (588, .lst [zi 8, zi 7])])
   (zap (per [] (fun m => [(1 * m + 589, .lst [.bool false, .bool false, .bool false, .bool false, .bool false, .bool false, .bool false, zi 0])]) 9)
   ([(598, .lst [zi 2, zi 1, zi 8, zi 1, zi 1, .bool false]),
    (599, .lst [zp 79 0]),
    (600, .dead),
    (601, .lst [zp 4 0]),
    (602, .lst [.bool false]),
    (603, .lst [zi 0]),
    (604, .lst [zi 4096]),
    (605, .loop 0 (zt [(0, 1, zp 4 0), (1, 1, zp 601 0), (2, 1, zp 602 0), (5, 1, zp 4 0), (6, 1, .bool true), (7, 1, .bool false), (8, 1, .fn 58 [] [zp 603 0, zp 604 0])]) (rfP FT ⟨8, [1, 1, 0, 1, 0]⟩) (rfA FT ⟨8, [1, 1, 0, 1, 0]⟩) (rfB FT ⟨8, [1, 1, 0, 1, 0]⟩))])))))))))))))))))))))))))))))))))))))))))))))))))))))))))))))))))))))))))))))),
  [.blk 0,
  .rf ⟨8, [1, 1, 0, 1, 0]⟩ (zt [(0, 1, zp 4 0), (1, 1, zp 601 0), (2, 1, zp 602 0), (5, 1, zp 4 0), (6, 1, .bool true), (7, 1, .bool false), (8, 1, .fn 58 [] [zp 603 0, zp 604 0])]) (.of 605) 58,
  .blk 0,
  .seq ⟨8, [1, 1, 1]⟩ 99998,
  .call (some (.of 15)) ⟨9, [1, 0]⟩ 13 99999 (zt [(0, 1, zp 4 0), (2, 1, .bool false), (3, 1, zp 4 0), (4, 2, .bool true), (6, 1, zp 4 0), (7, 3, .bool true), (10, 1, zp 4 0), (11, 3, .bool true), (14, 1, zp 4 0)]) 8,
  .seq ⟨9, [1, 1]⟩ 99999,
  .call (some (.of 29)) ⟨10, [1, 1, 1, 1, 0]⟩ 10 100000 (zt [(0, 1, .bool false), (1, 1, zp 4 0), (2, 1, zi 0), (3, 1, zp 141 0), (4, 1, .tup [zp 4 0, zi 0]), (5, 1, .agg [zi 2, zi 1, zi 8, zi 1, zi 1, .bool false]), (6, 1, .tup [zp 4 0, zi 0]), (7, 1, zp 4 0), (8, 2, zi 0), (10, 2, .bool false), (12, 1, zp 4 0), (13, 2, .bool false), (15, 1, .tup [.agg [zi 14, zi 2, zi 0, zi 0], zi 0]), (16, 1, zp 4 0), (17, 1, .tup [.agg [zi 14, zi 2, zi 0, zi 0], zi 0]), (18, 1, .agg [zi 14, zi 2, zi 0, zi 0]), (19, 2, zi 0), (21, 2, .bool true), (23, 2, .agg [zi 14, zi 2, zi 0, zi 0]), (25, 3, .bool true), (28, 1, zp 4 0)]) 9,
  .seq ⟨10, [1, 1, 1, 1, 1]⟩ 100000,
  .base 10]⟩
noncomputable def z2 : St1 :=
⟨.n, 99997, zt [(0, 1, .yield (.of 605)), (1, 1, zp 603 0), (2, 1, zp 604 0), (4, 1, zi 1024), (5, 2, zi 0), (7, 1, zi 1023), (8, 2, zi 4096), (10, 1, .bool true), (11, 1, zi 1023), (12, 1, zi 1024), (13, 1, .yield (.of 605)), (14, 1, zi 1023), (15, 1, .bool true), (16, 1, .bool false)],
  .mk (.of 4702) (zh (zap ([(0, .lst [zi 2, zi 1, zi 8, zi 1, zi 1, .bool false]),
    (1, .lst [zi 2, zi 1, zi 8, zi 1, zi 1, .bool false]),
    (2, .big 15 15 [zi 0, zi 0, zi 0, zi 0, zi 0, zi 0, zi 0, zi 0, zi 0, zi 0, zi 0, zi 0, .bool false, zi 0, zi 0] (zt [])),
    (3, .big 16 8 [zi 0, zi 0, zi 0, zi 0, zi 0, .bool false, zi 0, zi 0] (zt [])),
    (4, .big 20 1 [] (zt [(0, 1, zi 2), (1, 1, zi 1), (2, 1, zi 8), (3, 2, zi 1), (5, 1, .bool false), (6, 1, zp 6 0), (7, 1, .sl (.of 74) 0 2 2 (some 1)), (8, 1, zp 10 0), (9, 1, zp 12 0), (10, 1, .sl (.of 76) 0 2 2 (some 1)), (11, 1, .sl (.of 78) 0 2 2 (some 1)), (12, 1, .sl (.of 81) 0 1 1 (some 1)), (13, 1, zp 14 0), (14, 1, .sl (.of 2) 0 1 1 none), (15, 1, .sl (.of 3) 0 2 2 none), (16, 1, zi 0), (17, 3, .nils)])),
    (5, .big 160 10 [.int .u64 (.ofNat 0), .int .u64 (.ofNat 0), .int .u64 (.ofNat 0), .int .u64 (.ofNat 0), .int .u64 (.ofNat 0), .int .u64 (.ofNat 0), .int .u64 (.ofNat 0), .int .u64 (.ofNat 0), zi 0, zi 0] (zt [(8, 1, zi 1), (9, 1, zi 0), (88, 2, zi 1)])),
    (6, .lst [zi 2, zi 8, .sl (.of 5) 0 16 16 none]),
    (7, .mp []),
    (8, .mp []),
    (9, .mp []),
    (10, .lst [zi 2, zi 8, .map (.of 7), .map (.of 8), .map (.of 9)]),
    (11, .big 9 9 [zi 0, zi 0, zi 0, zi 0, zi 0, zi 0, zi 0, zi 0, zi 0] (zt [])),
    (12, .lst [.sl (.of 11) 0 1 1 none, zi 0, zi 0]),
    (13, .big 1 1 [.nils] (zt [])),
    (14, .lst [.sl (.of 13) 0 1 1 none, zi 0]),
    (15, .big 16 2 [zi 0, zi 0] (zt [(0, 1, zi 2), (1, 1, zi 0), (2, 1, zi 1), (3, 1, zi 0), (4, 2, zi 1), (8, 1, zi 1), (9, 1, zi 2)])),
    (16, .lst [zi 0, .sl (.of 15) 0 8 8 none]),
    (17, .lst [.bool true]),
    (18, .lst [zp 16 0]),
    (19, .lst [zi 1]),
    (20, .dead),
    (21, .lst [zi 1, zi 3]),
    (22, .mp []),
    (23, .lst [zp 6 0, zp 16 0, zi 0, zi 0, .sl (.of 35) 0 1 1 (some 1), .map (.of 22)]),
    (24, .lst [zi 1, zi 3])])
   (zap (per [] (fun m => [(1 * m + 25, .lst [zi 0, zi 0])]) 7)
   (zap ([(32, .lst [zi 1, zi 0]),
    (33, .lst [zi 1, zi 0]),
    (34, .lst [zi 0]),
    (35, .lst [zi 0]),
    (36, .lst [.nils, .bool true]),
    (37, .lst [zi 2, zp 36 0]),
    (38, .lst [zp 37 0, zp 23 0, zi 0]),
    (39, .mp []),
    (40, .lst [zi 0, zi 2, zi 1, .map (.of 39), .nils, .bool false, zi 0]),
    (41, .lst [zp 16 0]),
    (42, .dead),
    (43, .lst [zp 38 0]),
    (44, .dead),
    (45, .lst [zp 40 0]),
    (46, .dead),
    (47, .big 16 2 [zi 0, zi 0] (zt [(0, 1, zi 2), (1, 1, zi 0), (2, 1, zi 1), (3, 1, zi 0), (4, 2, zi 1), (8, 1, zi 1), (9, 1, zi 2)])),
    (48, .lst [zi 8, .sl (.of 47) 0 8 8 none]),
    (49, .lst [.bool true]),
    (50, .lst [zp 48 0]),
    (51, .lst [zi 1]),
    (52, .dead),
    (53, .lst [zi 1, zi 3]),
    (54, .mp []),
    (55, .lst [zp 6 0, zp 48 0, zi 1, zi 8, .sl (.of 67) 0 1 1 (some 1), .map (.of 54)]),
    (56, .lst [zi 1, zi 3])])
   (zap (per [] (fun m => [(1 * m + 57, .lst [zi 0, zi 0])]) 7)
   (zap ([(64, .lst [zi 1, zi 1]),
    (65, .lst [zi 1, zi 1]),
    (66, .lst [zi 8]),
    (67, .lst [zi 8]),
    (68, .lst [.nils, .bool true]),
    (69, .lst [zi 2, zp 68 0]),
    (70, .lst [zp 69 0, zp 55 0, zi 0]),
    (71, .mp []),
    (72, .lst [zi 1, zi 2, zi 1, .map (.of 71), .nils, .bool false, zi 0]),
    (73, .lst [zp 48 0]),
    (74, .lst [zp 16 0, zp 48 0]),
    (75, .lst [zp 70 0]),
    (76, .lst [zp 38 0, zp 70 0]),
    (77, .lst [zp 72 0]),
    (78, .lst [zp 40 0, zp 72 0]),
    (79, .big 259 1 [] (zt [(0, 3, zi 0), (3, 1, .bool false), (4, 3, zi 0), (7, 1, .bool false), (8, 3, zi 0), (11, 1, .bool false), (12, 3, zi 0), (15, 1, .bool false), (16, 3, zi 0), (19, 1, .bool false), (20, 3, zi 0), (23, 1, .bool false), (24, 3, zi 0), (27, 1, .bool false), (28, 3, zi 0), (31, 1, .bool false), (32, 3, zi 0), (35, 1, .bool false), (36, 3, zi 0), (39, 1, .bool false), (40, 3, zi 0), (43, 1, .bool false), (44, 3, zi 0), (47, 1, .bool false), (48, 3, zi 0), (51, 1, .bool false), (52, 3, zi 0), (55, 1, .bool false), (56, 3, zi 0), (59, 1, .bool false), (60, 3, zi 0), (63, 1, .bool false), (64, 3, zi 0), (67, 1, .bool false), (68, 3, zi 0), (71, 1, .bool false), (72, 3, zi 0), (75, 1, .bool false), (76, 3, zi 0), (79, 1, .bool false), (80, 3, zi 0), (83, 1, .bool false), (84, 3, zi 0), (87, 1, .bool false), (88, 3, zi 0), (91, 1, .bool false), (92, 3, zi 0), (95, 1, .bool false), (96, 3, zi 0), (99, 1, .bool false), (100, 3, zi 0), (103, 1, .bool false), (104, 3, zi 0), (107, 1, .bool false), (108, 3, zi 0), (111, 1, .bool false), (112, 3, zi 0), (115, 1, .bool false), (116, 3, zi 0), (119, 1, .bool false), (120, 3, zi 0), (123, 1, .bool false), (124, 3, zi 0), (127, 1, .bool false), (128, 3, zi 0), (131, 1, .bool false), (132, 3, zi 0), (135, 1, .bool false), (136, 3, zi 0), (139, 1, .bool false), (140, 3, zi 0), (143, 1, .bool false), (144, 3, zi 0), (147, 1, .bool false), (148, 3, zi 0), (151, 1, .bool false), (152, 3, zi 0), (155, 1, .bool false), (156, 3, zi 0), (159, 1, .bool false), (160, 3, zi 0), (163, 1, .bool false), (164, 3, zi 0), (167, 1, .bool false), (168, 3, zi 0), (171, 1, .bool false), (172, 3, zi 0), (175, 1, .bool false), (176, 3, zi 0), (179, 1, .bool false), (180, 3, zi 0), (183, 1, .bool false), (184, 3, zi 0), (187, 1, .bool false), (188, 3, zi 0), (191, 1, .bool false), (192, 3, zi 0), (195, 1, .bool false), (196, 3, zi 0), (199, 1, .bool false), (200, 3, zi 0), (203, 1, .bool false), (204, 3, zi 0), (207, 1, .bool false), (208, 3, zi 0), (211, 1, .bool false), (212, 3, zi 0), (215, 1, .bool false), (216, 3, zi 0), (219, 1, .bool false), (220, 3, zi 0), (223, 1, .bool false), (224, 3, zi 0), (227, 1, .bool false), (228, 3, zi 0), (231, 1, .bool false), (232, 3, zi 0), (235, 1, .bool false), (236, 3, zi 0), (239, 1, .bool false), (240, 3, zi 0), (243, 1, .bool false), (244, 3, zi 0), (247, 1, .bool false), (248, 3, zi 0), (251, 1, .bool false), (252, 3, zi 0), (255, 1, .bool false), (256, 2, zi 0), (258, 1, zi 1)])),
    (80, .lst [zp 79 0]),
    (81, .lst [zp 79 0]),
    (82, .lst [zi 14, zi 2, zi 0, zi 0]),
    (83, .lst [zi 14, zi 2, zi 0, zi 0]),
    (84, .lst [zi 2, zi 1, zi 8, zi 1, zi 1, .bool false]),
    (85, .lst [zi 7]),
    (86, .lst [zp 16 0]),
    (87, .lst [zi 1]),
    (88, .dead),
    (89, .lst [zi 2, zi 0]),
    (90, .lst [zi 1, zi 0]),
    (91, .lst [zi 1, zi 0]),
    (92, .lst [zi 1, zi 1]),
    (93, .lst [zi 2, zi 1]),
    (94, .lst [zi 0, zi 0]),
    (95, .lst [zi 1, zi 2]),
    (96, .lst [zi 4, zi 2]),
    (97, .lst [zi 0, zi 0]),
    (98, .lst [zi 0, zi 0]),
    (99, .lst [zi 0, zi 0]),
    (100, .big 10 1 [] (zt [(0, 8, .int .u64 (.ofNat 0)), (8, 1, zi 1), (9, 1, zi 0)]))])
   (zap (per [] (fun m => [(1 * m + 101, .big 10 1 [] (zt [(0, 8, .int .u64 (.ofNat 0)), (8, 2, zi 0)]))]) 7)
   (zap ([(108, .lst [zi 0, zi 0, zi 0, zi 0, zi 0, .bool false, zi 0, zi 0]),
    (109, .lst [zi 0, zi 0, zi 0, zi 0, zi 0, .bool false, zi 0, zi 0]),
    (110, .lst [zi 7]),
    (111, .lst [zp 48 0]),
    (112, .lst [zi 1]),
    (113, .dead),
    (114, .lst [zi 2, zi 0]),
    (115, .lst [zi 1, zi 0]),
    (116, .lst [zi 9, zi 0]),
    (117, .lst [zi 1, zi 1]),
    (118, .lst [zi 10, zi 1]),
    (119, .lst [zi 0, zi 0]),
    (120, .lst [zi 1, zi 2]),
    (121, .lst [zi 12, zi 2]),
    (122, .lst [zi 0, zi 0]),
    (123, .lst [zi 0, zi 0]),
    (124, .lst [zi 0, zi 0]),
    (125, .big 10 1 [] (zt [(0, 8, .int .u64 (.ofNat 0)), (8, 2, zi 1)]))])
   (zap (per [] (fun m => [(1 * m + 126, .big 10 1 [] (zt [(0, 8, .int .u64 (.ofNat 0)), (8, 2, zi 0)]))]) 7)
   (zap ([(133, .lst [zi 0, zi 0, zi 0, zi 0, zi 0, .bool false, zi 0, zi 0]),
    (134, .lst [zi 0, zi 0, zi 0, zi 0, zi 0, .bool false, zi 0, zi 0]),
    (135, .lst [zp 10 0]),
    (136, .dead),
    (137, .lst [.map (.of 9)]),
    (138, .lst [.nils]),
    (139, .dead),
    (140, .iter (some (.of 9))),
    (141, .lst [zi 14, zi 2, zi 0, zi 0]),
    (142, .lst [zi 2, zi 1, zi 8, zi 1, zi 1, .bool false]),
    (143, .lst [zi 2, zi 1, zi 8, zi 1, zi 1, .bool false]),
    (144, .big 16 1 [zi 0] (zt [(1, 7, zi 1), (9, 7, zi 1)])),
    (145, .lst [.sl (.of 144) 0 16 16 none]),
    (146, .lst [.fn 21 [] [zp 145 0]]),
    (147, .lst [zp 16 0]),
    (148, .lst [zi 1]),
    (149, .dead),
    (150, .lst [zi 2, zi 0]),
    (151, .lst [zi 1, zi 0]),
    (152, .lst [zi 1, zi 0]),
    (153, .lst [zi 1, zi 1]),
    (154, .lst [zi 2, zi 1]),
    (155, .lst [zi 0, zi 0]),
    (156, .lst [zi 1, zi 2]),
    (157, .lst [zi 4, zi 2]),
    (158, .lst [zi 0, zi 0]),
    (159, .lst [zi 0, zi 0]),
    (160, .lst [zi 0, zi 0]),
    (161, .lst [zi 0, zi 0, zi 0, zi 0, zi 0, .bool false, zi 0, zi 0]),
    (162, .lst [zi 0, zi 0, zi 0, zi 0, zi 0, .bool false, zi 0, zi 0]),
    (163, .lst [zp 48 0]),
    (164, .lst [zi 1]),
    (165, .dead),
    (166, .lst [zi 2, zi 0]),
    (167, .lst [zi 1, zi 0]),
    (168, .lst [zi 9, zi 0]),
    (169, .lst [zi 1, zi 1]),
    (170, .lst [zi 10, zi 1]),
    (171, .lst [zi 0, zi 0]),
    (172, .lst [zi 1, zi 2]),
    (173, .lst [zi 12, zi 2]),
    (174, .lst [zi 0, zi 0]),
    (175, .lst [zi 0, zi 0]),
    (176, .lst [zi 0, zi 0]),
    (177, .lst [zi 0, zi 0, zi 0, zi 0, zi 0, .bool false, zi 0, zi 0]),
    (178, .lst [zi 0, zi 0, zi 0, zi 0, zi 0, .bool false, zi 0, zi 0]),
    (179, .lst [zp 10 0]),
    (180, .dead),
    (181, .lst [.map (.of 9)]),
    (182, .lst [.nils]),
    (183, .dead),
    (184, .iter (some (.of 9))),
    (185, .lst [zi 1, zi 0]),
    (186, .lst [zi 1, zi 0])])
   (zap (per [] (fun m => [(1 * m + 187, .lst [zi 0, zi 0])]) 14)
   (zap ([(201, .lst [zi 1, zi 1]),
    (202, .lst [zi 1, zi 1])])
   (zap (per [] (fun m => [(1 * m + 203, .lst [zi 0, zi 0])]) 14)
   (zap ([(217, .lst [zi 2, zi 1, zi 8, zi 1, zi 1, .bool false]),
    (218, .lst [zp 38 0]),
    (219, .lst [.bool true]),
    (220, .lst [zp 23 0]),
    (221, .dead),
    (222, .lst [.yield (.of 221)]),
    (223, .lst [zp 23 0]),
    (224, .dead),
    (225, .lst [zi 0, zi 0]),
    (226, .lst [zi 0, zi 0])])
   (zap (per [] (fun m => [(1 * m + 227, .lst [.bool false, .bool false, .bool false, .bool false, .bool false, .bool false, .bool false, zi 0])]) 9)
   (zap ([(236, .lst [zi 0, zi 1]),
    (237, .lst [zi 0, zi 1])])
   (zap (per [] (fun m => [(1 * m + 238, .lst [.bool false, .bool false, .bool false, .bool false, .bool false, .bool false, .bool false, zi 0])]) 9)
   (zap ([(247, .lst [zi 0, zi 2]),
    (248, .lst [zi 0, zi 2])])
   (zap (per [] (fun m => [(1 * m + 249, .lst [.bool false, .bool false, .bool false, .bool false, .bool false, .bool false, .bool false, zi 0])]) 9)
   (zap ([(258, .lst [zi 0, zi 3]),
    (259, .lst [zi 0, zi 3])])
   (zap (per [] (fun m => [(1 * m + 260, .lst [.bool false, .bool false, .bool false, .bool false, .bool false, .bool false, .bool false, zi 0])]) 9)
   (zap ([(269, .lst [zi 0, zi 4]),
    (270, .lst [zi 0, zi 4])])
   (zap (per [] (fun m => [(1 * m + 271, .lst [.bool false, .bool false, .bool false, .bool false, .bool false, .bool false, .bool false, zi 0])]) 9)
   (zap ([(280, .lst [zi 0, zi 5]),
    (281, .lst [zi 0, zi 5])])
   (zap (per [] (fun m => [(1 * m + 282, .lst [.bool false, .bool false, .bool false, .bool false, .bool false, .bool false, .bool false, zi 0])]) 9)
   (zap ([(291, .lst [zi 0, zi 6]),
    (292, .lst [zi 0, zi 6])])
   (zap (per [] (fun m => [(1 * m + 293, .lst [.bool false, .bool false, .bool false, .bool false, .bool false, .bool false, .bool false, zi 0])]) 9)
   (zap ([(302, .lst [zi 0, zi 7]),
    (303, .lst [zi 0, zi 7])])
   (zap (per [] (fun m => [(1 * m + 304, .lst [.bool false, .bool false, .bool false, .bool false, .bool false, .bool false, .bool false, zi 0])]) 9)
   (zap ([(313, .lst [zp 70 0]),
    (314, .lst [.bool true]),
    (315, .lst [zp 55 0]),
    (316, .dead),
    (317, .lst [.yield (.of 316)]),
    (318, .lst [zp 55 0]),
    (319, .dead),
    (320, .lst [zi 8, zi 0]),
    (321, .lst [zi 8, zi 0])])
   (zap (per [] (fun m => [(1 * m + 322, .lst [.bool false, .bool false, .bool false, .bool false, .bool false, .bool false, .bool false, zi 0])]) 9)
   (zap ([(331, .lst [zi 8, zi 1]),
    (332, .lst [zi 8, zi 1])])
   (zap (per [] (fun m => [(1 * m + 333, .lst [.bool false, .bool false, .bool false, .bool false, .bool false, .bool false, .bool false, zi 0])]) 9)
   (zap ([(342, .lst [zi 8, zi 2]),
    (343, .lst [zi 8, zi 2])])
   (zap (per [] (fun m => [(1 * m + 344, .lst [.bool false, .bool false, .bool false, .bool false, .bool false, .bool false, .bool false, zi 0])]) 9)
   (zap ([(353, .lst [zi 8, zi 3]),
    (354, .lst [zi 8, zi 3])])
   (zap (per [] (fun m => [(1 * m + 355, .lst [.bool false, .bool false, .bool false, .bool false, .bool false, .bool false, .bool false, zi 0])]) 9)
   (zap ([(364, .lst [zi 8, zi 4]),
    (365, .lst [zi 8, zi 4])])
   (zap (per [] (fun m => [(1 * m + 366, .lst [.bool false, .bool false, .bool false, .bool false, .bool false, .bool false, .bool false, zi 0])]) 9)
   (zap ([(375, .lst [zi 8, zi 5]),
    (376, .lst [zi 8, zi 5])])
   (zap (per [] (fun m => [(1 * m + 377, .lst [.bool false, .bool false, .bool false, .bool false, .bool false, .bool false, .bool false, zi 0])]) 9)
   (zap ([(386, .lst [zi 8, zi 6]),
    (387, .lst [zi 8, zi 6])])
   (zap (per [] (fun m => [(1 * m + 388, .lst [.bool false, .bool false, .bool false, .bool false, .bool false, .bool false, .bool false, zi 0])]) 9)
   (zap ([(397, .lst [zi 8, zi 7]),
    (398, .lst [zi 8, zi 7])])
   (zap (per [] (fun m => [(1 * m + 399, .lst [.bool false, .bool false, .bool false, .bool false, .bool false, .bool false, .bool false, zi 0])]) 9)
   (zap ([(408, .lst [zp 4 0]),
    (409, .lst [.fn 32 [] [zp 408 0]]),
    (410, .lst [.bool true]),
    (411, .lst [zi 2, zi 1, zi 8, zi 1, zi 1, .bool false]),
    (412, .lst [zp 23 0]),
    (413, .dead),
    (414, .lst [.yield (.of 413)]),
    (415, .lst [zp 23 0]),
    (416, .dead),
    (417, .lst [zi 0, zi 0]),
    (418, .lst [zi 0, zi 0])])
   (zap (per [] (fun m => [(1 * m + 419, .lst [.bool false, .bool false, .bool false, .bool false, .bool false, .bool false, .bool false, zi 0])]) 9)
   (zap ([(428, .lst [zi 0, zi 1]),
    (429, .lst [zi 0, zi 1])])
   (zap (per [] (fun m => [(1 * m + 430, .lst [.bool false, .bool false, .bool false, .bool false, .bool false, .bool false, .bool false, zi 0])]) 9)
   (zap ([(439, .lst [zi 0, zi 2]),
    (440, .lst [zi 0, zi 2])])
   (zap (per [] (fun m => [(1 * m + 441, .lst [.bool false, .bool false, .bool false, .bool false, .bool false, .bool false, .bool false, zi 0])]) 9)
   (zap ([(450, .lst [zi 0, zi 3]),
    (451, .lst [zi 0, zi 3])])
   (zap (per [] (fun m => [(1 * m + 452, .lst [.bool false, .bool false, .bool false, .bool false, .bool false, .bool false, .bool false, zi 0])]) 9)
   (zap ([(461, .lst [zi 0, zi 4]),
    (462, .lst [zi 0, zi 4])])
   (zap (per [] (fun m => [(1 * m + 463, .lst [.bool false, .bool false, .bool false, .bool false, .bool false, .bool false, .bool false, zi 0])]) 9)
   (zap ([(472, .lst [zi 0, zi 5]),
    (473, .lst [zi 0, zi 5])])
   (zap (per [] (fun m => [(1 * m + 474, .lst [.bool false, .bool false, .bool false, .bool false, .bool false, .bool false, .bool false, zi 0])]) 9)
   (zap ([(483, .lst [zi 0, zi 6]),
    (484, .lst [zi 0, zi 6])])
   (zap (per [] (fun m => [(1 * m + 485, .lst [.bool false, .bool false, .bool false, .bool false, .bool false, .bool false, .bool false, zi 0])]) 9)
   (zap ([(494, .lst [zi 0, zi 7]),
    (495, .lst [zi 0, zi 7])])
   (zap (per [] (fun m => [(1 * m + 496, .lst [.bool false, .bool false, .bool false, .bool false, .bool false, .bool false, .bool false, zi 0])]) 9)
   (zap ([(505, .lst [zp 55 0]),
    (506, .dead),
    (507, .lst [.yield (.of 506)]),
    (508, .lst [zp 55 0]),
    (509, .dead),
    (510, .lst [zi 8, zi 0]),
    (511, .lst [zi 8, zi 0])])
   (zap (per [] (fun m => [(1 * m + 512, .lst [.bool false, .bool false, .bool false, .bool false, .bool false, .bool false, .bool false, zi 0])]) 9)
   (zap ([(521, .lst [zi 8, zi 1]),
    (522, .lst [zi 8, zi 1])])
   (zap (per [] (fun m => [(1 * m + 523, .lst [.bool false, .bool false, .bool false, .bool false, .bool false, .bool false, .bool false, zi 0])]) 9)
   (zap ([(532, .lst [zi 8, zi 2]),
    (533, .lst [zi 8, zi 2])])
   (zap (per [] (fun m => [(1 * m + 534, .lst [.bool false, .bool false, .bool false, .bool false, .bool false, .bool false, .bool false, zi 0])]) 9)
   (zap ([(543, .lst [zi 8, zi 3]),
    (544, .lst [zi 8, zi 3])])
   (zap (per [] (fun m => [(1 * m + 545, .lst [.bool false, .bool false, .bool false, .bool false, .bool false, .bool false, .bool false, zi 0])]) 9)
   (zap ([(554, .lst [zi 8, zi 4]),
    (555, .lst [zi 8, zi 4])])
   (zap (per [] (fun m => [(1 * m + 556, .lst [.bool false, .bool false, .bool false, .bool false, .bool false, .bool false, .bool false, zi 0])]) 9)
   (zap ([(565, .lst [zi 8, zi 5]),
    (566, .lst [zi 8, zi 5])])
   (zap (per [] (fun m => [(1 * m + 567, .lst [.bool false, .bool false, .bool false, .bool false, .bool false, .bool false, .bool false, zi 0])]) 9)
   (zap ([(576, .lst [zi 8, zi 6]),
    (577, .lst [zi 8, zi 6])])
   (zap (per [] (fun m => [(1 * m + 578, .lst [.bool false, .bool false, .bool false, .bool false, .bool false, .bool false, .bool false, zi 0])]) 9)
   (zap ([(587, .lst [zi 8, zi 7]),
    (588, .lst [zi 8, zi 7])])
   (zap (per [] (fun m => [(1 * m + 589, .lst [.bool false, .bool false, .bool false, .bool false, .bool false, .bool false, .bool false, zi 0])]) 9)
   (zap ([(598, .lst [zi 2, zi 1, zi 8, zi 1, zi 1, .bool false]),
    (599, .lst [zp 79 0]),
    (600, .dead),
    (601, .lst [zp 4 0]),
    (602, .lst [.bool false]),
    (603, .lst [zi 0]),
    (604, .lst [zi 4096]),
    (605, .loop 0 (zt [(0, 1, zp 4 0), (1, 1, zp 601 0), (2, 1, zp 602 0), (5, 1, zp 4 0), (6, 1, .bool true), (7, 1, .bool false), (8, 1, .fn 58 [] [zp 603 0, zp 604 0])]) (rfP FT ⟨8, [1, 1, 0, 1, 0]⟩) (rfA FT ⟨8, [1, 1, 0, 1, 0]⟩) (rfB FT ⟨8, [1, 1, 0, 1, 0]⟩))])
   (zap (per [] (fun m => [(4 * m + 606, .lst [zi 0, .sl (.of (4 * m + 608)) 0 0 0 none]),
    (4 * m + 607, .lst [zi 0, .sl (.of (4 * m + 608)) 0 0 0 none]),
    (4 * m + 608, .big 0 1 [zi 0] (zt [])),
    (4 * m + 609, .lst [zi 0, .sl (.of (4 * m + 608)) 0 0 0 none])]) 1024)
   ([])))))))))))))))))))))))))))))))))))))))))))))))))))))))))))))))))))))))))))))))),
  [.loop ⟨58, [1, 0, 0]⟩ 98973,
  .blk 0,
  .rf ⟨8, [1, 1, 0, 1, 0]⟩ (zt [(0, 1, zp 4 0), (1, 1, zp 601 0), (2, 1, zp 602 0), (5, 1, zp 4 0), (6, 1, .bool true), (7, 1, .bool false), (8, 1, .fn 58 [] [zp 603 0, zp 604 0])]) (.of 605) 58,
  .blk 0,
  .seq ⟨8, [1, 1, 1]⟩ 99998,
  .call (some (.of 15)) ⟨9, [1, 0]⟩ 13 99999 (zt [(0, 1, zp 4 0), (2, 1, .bool false), (3, 1, zp 4 0), (4, 2, .bool true), (6, 1, zp 4 0), (7, 3, .bool true), (10, 1, zp 4 0), (11, 3, .bool true), (14, 1, zp 4 0)]) 8,
  .seq ⟨9, [1, 1]⟩ 99999,
  .call (some (.of 29)) ⟨10, [1, 1, 1, 1, 0]⟩ 10 100000 (zt [(0, 1, .bool false), (1, 1, zp 4 0), (2, 1, zi 0), (3, 1, zp 141 0), (4, 1, .tup [zp 4 0, zi 0]), (5, 1, .agg [zi 2, zi 1, zi 8, zi 1, zi 1, .bool false]), (6, 1, .tup [zp 4 0, zi 0]), (7, 1, zp 4 0), (8, 2, zi 0), (10, 2, .bool false), (12, 1, zp 4 0), (13, 2, .bool false), (15, 1, .tup [.agg [zi 14, zi 2, zi 0, zi 0], zi 0]), (16, 1, zp 4 0), (17, 1, .tup [.agg [zi 14, zi 2, zi 0, zi 0], zi 0]), (18, 1, .agg [zi 14, zi 2, zi 0, zi 0]), (19, 2, zi 0), (21, 2, .bool true), (23, 2, .agg [zi 14, zi 2, zi 0, zi 0]), (25, 3, .bool true), (28, 1, zp 4 0)]) 9,
  .seq ⟨10, [1, 1, 1, 1, 1]⟩ 100000,
  .base 10]⟩
noncomputable def z3 : St1 :=
⟨.n, 99997, zt [(0, 1, .yield (.of 605)), (1, 1, zp 603 0), (2, 1, zp 604 0), (4, 1, zi 2048), (5, 2, zi 0), (7, 1, zi 2047), (8, 2, zi 4096), (10, 1, .bool true), (11, 1, zi 2047), (12, 1, zi 2048), (13, 1, .yield (.of 605)), (14, 1, zi 2047), (15, 1, .bool true), (16, 1, .bool false)],
  .mk (.of 8798) (zh (zap ([(0, .lst [zi 2, zi 1, zi 8, zi 1, zi 1, .bool false]),
    (1, .lst [zi 2, zi 1, zi 8, zi 1, zi 1, .bool false]),
    (2, .big 15 15 [zi 0, zi 0, zi 0, zi 0, zi 0, zi 0, zi 0, zi 0, zi 0, zi 0, zi 0, zi 0, .bool false, zi 0, zi 0] (zt [])),
    (3, .big 16 8 [zi 0, zi 0, zi 0, zi 0, zi 0, .bool false, zi 0, zi 0] (zt [])),
    (4, .big 20 1 [] (zt [(0, 1, zi 2), (1, 1, zi 1), (2, 1, zi 8), (3, 2, zi 1), (5, 1, .bool false), (6, 1, zp 6 0), (7, 1, .sl (.of 74) 0 2 2 (some 1)), (8, 1, zp 10 0), (9, 1, zp 12 0), (10, 1, .sl (.of 76) 0 2 2 (some 1)), (11, 1, .sl (.of 78) 0 2 2 (some 1)), (12, 1, .sl (.of 81) 0 1 1 (some 1)), (13, 1, zp 14 0), (14, 1, .sl (.of 2) 0 1 1 none), (15, 1, .sl (.of 3) 0 2 2 none), (16, 1, zi 0), (17, 3, .nils)])),
    (5, .big 160 10 [.int .u64 (.ofNat 0), .int .u64 (.ofNat 0), .int .u64 (.ofNat 0), .int .u64 (.ofNat 0), .int .u64 (.ofNat 0), .int .u64 (.ofNat 0), .int .u64 (.ofNat 0), .int .u64 (.ofNat 0), zi 0, zi 0] (zt [(8, 1, zi 1), (9, 1, zi 0), (88, 2, zi 1)])),
    (6, .lst [zi 2, zi 8, .sl (.of 5) 0 16 16 none]),
    (7, .mp []),
    (8, .mp []),
    (9, .mp []),
    (10, .lst [zi 2, zi 8, .map (.of 7), .map (.of 8), .map (.of 9)]),
    (11, .big 9 9 [zi 0, zi 0, zi 0, zi 0, zi 0, zi 0, zi 0, zi 0, zi 0] (zt [])),
    (12, .lst [.sl (.of 11) 0 1 1 none, zi 0, zi 0]),
    (13, .big 1 1 [.nils] (zt [])),
    (14, .lst [.sl (.of 13) 0 1 1 none, zi 0]),
    (15, .big 16 2 [zi 0, zi 0] (zt [(0, 1, zi 2), (1, 1, zi 0), (2, 1, zi 1), (3, 1, zi 0), (4, 2, zi 1), (8, 1, zi 1), (9, 1, zi 2)])),
    (16, .lst [zi 0, .sl (.of 15) 0 8 8 none]),
    (17, .lst [.bool true]),
    (18, .lst [zp 16 0]),
    (19, .lst [zi 1]),
    (20, .dead),
    (21, .lst [zi 1, zi 3]),
    (22, .mp []),
    (23, .lst [zp 6 0, zp 16 0, zi 0, zi 0, .sl (.of 35) 0 1 1 (some 1), .map (.of 22)]),
    (24, .lst [zi 1, zi 3])])
   (zap (per [] (fun m => [(1 * m + 25, .lst [zi 0, zi 0])]) 7)
   (zap ([(32, .lst [zi 1, zi 0]),
    (33, .lst [zi 1, zi 0]),
    (34, .lst [zi 0]),
    (35, .lst [zi 0]),
    (36, .lst [.nils, .bool true]),
    (37, .lst [zi 2, zp 36 0]),
    (38, .lst [zp 37 0, zp 23 0, zi 0]),
    (39, .mp []),
    (40, .lst [zi 0, zi 2, zi 1, .map (.of 39), .nils, .bool false, zi 0]),
    (41, .lst [zp 16 0]),
    (42, .dead),
    (43, .lst [zp 38 0]),
    (44, .dead),
    (45, .lst [zp 40 0]),
    (46, .dead),
    (47, .big 16 2 [zi 0, zi 0] (zt [(0, 1, zi 2), (1, 1, zi 0), (2, 1, zi 1), (3, 1, zi 0), (4, 2, zi 1), (8, 1, zi 1), (9, 1, zi 2)])),
    (48, .lst [zi 8, .sl (.of 47) 0 8 8 none]),
    (49, .lst [.bool true]),
    (50, .lst [zp 48 0]),
    (51, .lst [zi 1]),
    (52, .dead),
    (53, .lst [zi 1, zi 3]),
    (54, .mp []),
    (55, .lst [zp 6 0, zp 48 0, zi 1, zi 8, .sl (.of 67) 0 1 1 (some 1), .map (.of 54)]),
    (56, .lst [zi 1, zi 3])])
   (zap (per [] (fun m => [(1 * m + 57, .lst [zi 0, zi 0])]) 7)
   (zap ([(64, .lst [zi 1, zi 1]),
    (65, .lst [zi 1, zi 1]),
    (66, .lst [zi 8]),
    (67, .lst [zi 8]),
    (68, .lst [.nils, .bool true]),
    (69, .lst [zi 2, zp 68 0]),
    (70, .lst [zp 69 0, zp 55 0, zi 0]),
    (71, .mp []),
    (72, .lst [zi 1, zi 2, zi 1, .map (.of 71), .nils, .bool false, zi 0]),
    (73, .lst [zp 48 0]),
    (74, .lst [zp 16 0, zp 48 0]),
    (75, .lst [zp 70 0]),
    (76, .lst [zp 38 0, zp 70 0]),
    (77, .lst [zp 72 0]),
    (78, .lst [zp 40 0, zp 72 0]),
    (79, .big 259 1 [] (zt [(0, 3, zi 0), (3, 1, .bool false), (4, 3, zi 0), (7, 1, .bool false), (8, 3, zi 0), (11, 1, .bool false), (12, 3, zi 0), (15, 1, .bool false), (16, 3, zi 0), (19, 1, .bool false), (20, 3, zi 0), (23, 1, .bool false), (24, 3, zi 0), (27, 1, .bool false), (28, 3, zi 0), (31, 1, .bool false), (32, 3, zi 0), (35, 1, .bool false), (36, 3, zi 0), (39, 1, .bool false), (40, 3, zi 0), (43, 1, .bool false), (44, 3, zi 0), (47, 1, .bool false), (48, 3, zi 0), (51, 1, .bool false), (52, 3, zi 0), (55, 1, .bool false), (56, 3, zi 0), (59, 1, .bool false), (60, 3, zi 0), (63, 1, .bool false), (64, 3, zi 0), (67, 1, .bool false), (68, 3, zi 0), (71, 1, .bool false), (72, 3, zi 0), (75, 1, .bool false), (76, 3, zi 0), (79, 1, .bool false), (80, 3, zi 0), (83, 1, .bool false), (84, 3, zi 0), (87, 1, .bool false), (88, 3, zi 0), (91, 1, .bool false), (92, 3, zi 0), (95, 1, .bool false), (96, 3, zi 0), (99, 1, .bool false), (100, 3, zi 0), (103, 1, .bool false), (104, 3, zi 0), (107, 1, .bool false), (108, 3, zi 0), (111, 1, .bool false), (112, 3, zi 0), (115, 1, .bool false), (116, 3, zi 0), (119, 1, .bool false), (120, 3, zi 0), (123, 1, .bool false), (124, 3, zi 0), (127, 1, .bool false), (128, 3, zi 0), (131, 1, .bool false), (132, 3, zi 0), (135, 1, .bool false), (136, 3, zi 0), (139, 1, .bool false), (140, 3, zi 0), (143, 1, .bool false), (144, 3, zi 0), (147, 1, .bool false), (148, 3, zi 0), (151, 1, .bool false), (152, 3, zi 0), (155, 1, .bool false), (156, 3, zi 0), (159, 1, .bool false), (160, 3, zi 0), (163, 1, .bool false), (164, 3, zi 0), (167, 1, .bool false), (168, 3, zi 0), (171, 1, .bool false), (172, 3, zi 0), (175, 1, .bool false), (176, 3, zi 0), (179, 1, .bool false), (180, 3, zi 0), (183, 1, .bool false), (184, 3, zi 0), (187, 1, .bool false), (188, 3, zi 0), (191, 1, .bool false), (192, 3, zi 0), (195, 1, .bool false), (196, 3, zi 0), (199, 1, .bool false), (200, 3, zi 0), (203, 1, .bool false), (204, 3, zi 0), (207, 1, .bool false), (208, 3, zi 0), (211, 1, .bool false), (212, 3, zi 0), (215, 1, .bool false), (216, 3, zi 0), (219, 1, .bool false), (220, 3, zi 0), (223, 1, .bool false), (224, 3, zi 0), (227, 1, .bool false), (228, 3, zi 0), (231, 1, .bool false), (232, 3, zi 0), (235, 1, .bool false), (236, 3, zi 0), (239, 1, .bool false), (240, 3, zi 0), (243, 1, .bool false), (244, 3, zi 0), (247, 1, .bool false), (248, 3, zi 0), (251, 1, .bool false), (252, 3, zi 0), (255, 1, .bool false), (256, 2, zi 0), (258, 1, zi 1)])),
    (80, .lst [zp 79 0]),
    (81, .lst [zp 79 0]),
    (82, .lst [zi 14, zi 2, zi 0, zi 0]),
    (83, .lst [zi 14, zi 2, zi 0, zi 0]),
    (84, .lst [zi 2, zi 1, zi 8, zi 1, zi 1, .bool false]),
    (85, .lst [zi 7]),
    (86, .lst [zp 16 0]),
    (87, .lst [zi 1]),
    (88, .dead),
    (89, .lst [zi 2, zi 0]),
    (90, .lst [zi 1, zi 0]),
    (91, .lst [zi 1, zi 0]),
    (92, .lst [zi 1, zi 1]),
    (93, .lst [zi 2, zi 1]),
    (94, .lst [zi 0, zi 0]),
    (95, .lst [zi 1, zi 2]),
    (96, .lst [zi 4, zi 2]),
    (97, .lst [zi 0, zi 0]),
    (98, .lst [zi 0, zi 0]),
    (99, .lst [zi 0, zi 0]),
    (100, .big 10 1 [] (zt [(0, 8, .int .u64 (.ofNat 0)), (8, 1, zi 1), (9, 1, zi 0)]))])
   (zap (per [] (fun m => [(1 * m + 101, .big 10 1 [] (zt [(0, 8, .int .u64 (.ofNat 0)), (8, 2, zi 0)]))]) 7)
   (zap ([(108, .lst [zi 0, zi 0, zi 0, zi 0, zi 0, .bool false, zi 0, zi 0]),
    (109, .lst [zi 0, zi 0, zi 0, zi 0, zi 0, .bool false, zi 0, zi 0]),
    (110, .lst [zi 7]),
    (111, .lst [zp 48 0]),
    (112, .lst [zi 1]),
    (113, .dead),
    (114, .lst [zi 2, zi 0]),
    (115, .lst [zi 1, zi 0]),
    (116, .lst [zi 9, zi 0]),
    (117, .lst [zi 1, zi 1]),
    (118, .lst [zi 10, zi 1]),
    (119, .lst [zi 0, zi 0]),
    (120, .lst [zi 1, zi 2]),
    (121, .lst [zi 12, zi 2]),
    (122, .lst [zi 0, zi 0]),
    (123, .lst [zi 0, zi 0]),
    (124, .lst [zi 0, zi 0]),
    (125, .big 10 1 [] (zt [(0, 8, .int .u64 (.ofNat 0)), (8, 2, zi 1)]))])
   (zap (per [] (fun m => [(1 * m + 126, .big 10 1 [] (zt [(0, 8, .int .u64 (.ofNat 0)), (8, 2, zi 0)]))]) 7)
   (zap ([(133, .lst [zi 0, zi 0, zi 0, zi 0, zi 0, .bool false, zi 0, zi 0]),
    (134, .lst [zi 0, zi 0, zi 0, zi 0, zi 0, .bool false, zi 0, zi 0]),
    (135, .lst [zp 10 0]),
    (136, .dead),
    (137, .lst [.map (.of 9)]),
    (138, .lst [.nils]),
    (139, .dead),
    (140, .iter (some (.of 9))),
    (141, .lst [zi 14, zi 2, zi 0, zi 0]),
    (142, .lst [zi 2, zi 1, zi 8, zi 1, zi 1, .bool false]),
    (143, .lst [zi 2, zi 1, zi 8, zi 1, zi 1, .bool false]),
    (144, .big 16 1 [zi 0] (zt [(1, 7, zi 1), (9, 7, zi 1)])),
    (145, .lst [.sl (.of 144) 0 16 16 none]),
    (146, .lst [.fn 21 [] [zp 145 0]]),
    (147, .lst [zp 16 0]),
    (148, .lst [zi 1]),
    (149, .dead),
    (150, .lst [zi 2, zi 0]),
    (151, .lst [zi 1, zi 0]),
    (152, .lst [zi 1, zi 0]),
    (153, .lst [zi 1, zi 1]),
    (154, .lst [zi 2, zi 1]),
    (155, .lst [zi 0, zi 0]),
    (156, .lst [zi 1, zi 2]),
    (157, .lst [zi 4, zi 2]),
    (158, .lst [zi 0, zi 0]),
    (159, .lst [zi 0, zi 0]),
    (160, .lst [zi 0, zi 0]),
    (161, .lst [zi 0, zi 0, zi 0, zi 0, zi 0, .bool false, zi 0, zi 0]),
    (162, .lst [zi 0, zi 0, zi 0, zi 0, zi 0, .bool false, zi 0, zi 0]),
    (163, .lst [zp 48 0]),
    (164, .lst [zi 1]),
    (165, .dead),
    (166, .lst [zi 2, zi 0]),
    (167, .lst [zi 1, zi 0]),
    (168, .lst [zi 9, zi 0]),
    (169, .lst [zi 1, zi 1]),
    (170, .lst [zi 10, zi 1]),
    (171, .lst [zi 0, zi 0]),
    (172, .lst [zi 1, zi 2]),
    (173, .lst [zi 12, zi 2]),
    (174, .lst [zi 0, zi 0]),
    (175, .lst [zi 0, zi 0]),
    (176, .lst [zi 0, zi 0]),
    (177, .lst [zi 0, zi 0, zi 0, zi 0, zi 0, .bool false, zi 0, zi 0]),
    (178, .lst [zi 0, zi 0, zi 0, zi 0, zi 0, .bool false, zi 0, zi 0]),
    (179, .lst [zp 10 0]),
    (180, .dead),
    (181, .lst [.map (.of 9)]),
    (182, .lst [.nils]),
    (183, .dead),
    (184, .iter (some (.of 9))),
    (185, .lst [zi 1, zi 0]),
    (186, .lst [zi 1, zi 0])])
   (zap (per [] (fun m => [(1 * m + 187, .lst [zi 0, zi 0])]) 14)
   (zap ([(201, .lst [zi 1, zi 1]),
    (202, .lst [zi 1, zi 1])])
   (zap (per [] (fun m => [(1 * m + 203, .lst [zi 0, zi 0])]) 14)
   (zap ([(217, .lst [zi 2, zi 1, zi 8, zi 1, zi 1, .bool false]),
    (218, .lst [zp 38 0]),
    (219, .lst [.bool true]),
    (220, .lst [zp 23 0]),
    (221, .dead),
    (222, .lst [.yield (.of 221)]),
    (223, .lst [zp 23 0]),
    (224, .dead),
    (225, .lst [zi 0, zi 0]),
    (226, .lst [zi 0, zi 0])])
   (zap (per [] (fun m => [(1 * m + 227, .lst [.bool false, .bool false, .bool false, .bool false, .bool false, .bool false, .bool false, zi 0])]) 9)
   (zap ([(236, .lst [zi 0, zi 1]),
    (237, .lst [zi 0, zi 1])])
   (zap (per [] (fun m => [(1 * m + 238, .lst [.bool false, .bool false, .bool false, .bool false, .bool false, .bool false, .bool false, zi 0])]) 9)
   (zap ([(247, .lst [zi 0, zi 2]),
    (248, .lst [zi 0, zi 2])])
   (zap (per [] (fun m => [(1 * m + 249, .lst [.bool false, .bool false, .bool false, .bool false, .bool false, .bool false, .bool false, zi 0])]) 9)
   (zap ([(258, .lst [zi 0, zi 3]),
    (259, .lst [zi 0, zi 3])])
   (zap (per [] (fun m => [(1 * m + 260, .lst [.bool false, .bool false, .bool false, .bool false, .bool false, .bool false, .bool false, zi 0])]) 9)
   (zap ([(269, .lst [zi 0, zi 4]),
    (270, .lst [zi 0, zi 4])])
   (zap (per [] (fun m => [(1 * m + 271, .lst [.bool false, .bool false, .bool false, .bool false, .bool false, .bool false, .bool false, zi 0])]) 9)
   (zap ([(280, .lst [zi 0, zi 5]),
    (281, .lst [zi 0, zi 5])])
   (zap (per [] (fun m => [(1 * m + 282, .lst [.bool false, .bool false, .bool false, .bool false, .bool false, .bool false, .bool false, zi 0])]) 9)
   (zap ([(291, .lst [zi 0, zi 6]),
    (292, .lst [zi 0, zi 6])])
   (zap (per [] (fun m => [(1 * m + 293, .lst [.bool false, .bool false, .bool false, .bool false, .bool false, .bool false, .bool false, zi 0])]) 9)
   (zap ([(302, .lst [zi 0, zi 7]),
    (303, .lst [zi 0, zi 7])])
   (zap (per [] (fun m => [(1 * m + 304, .lst [.bool false, .bool false, .bool false, .bool false, .bool false, .bool false, .bool false, zi 0])]) 9)
   (zap ([(313, .lst [zp 70 0]),
    (314, .lst [.bool true]),
    (315, .lst [zp 55 0]),
    (316, .dead),
    (317, .lst [.yield (.of 316)]),
    (318, .lst [zp 55 0]),
    (319, .dead),
    (320, .lst [zi 8, zi 0]),
    (321, .lst [zi 8, zi 0])])
   (zap (per [] (fun m => [(1 * m + 322, .lst [.bool false, .bool false, .bool false, .bool false, .bool false, .bool false, .bool false, zi 0])]) 9)
   (zap ([(331, .lst [zi 8, zi 1]),
    (332, .lst [zi 8, zi 1])])
   (zap (per [] (fun m => [(1 * m + 333, .lst [.bool false, .bool false, .bool false, .bool false, .bool false, .bool false, .bool false, zi 0])]) 9)
   (zap ([(342, .lst [zi 8, zi 2]),
    (343, .lst [zi 8, zi 2])])
   (zap (per [] (fun m => [(1 * m + 344, .lst [.bool false, .bool false, .bool false, .bool false, .bool false, .bool false, .bool false, zi 0])]) 9)
   (zap ([(353, .lst [zi 8, zi 3]),
    (354, .lst [zi 8, zi 3])])
   (zap (per [] (fun m => [(1 * m + 355, .lst [.bool false, .bool false, .bool false, .bool false, .bool false, .bool false, .bool false, zi 0])]) 9)
   (zap ([(364, .lst [zi 8, zi 4]),
    (365, .lst [zi 8, zi 4])])
   (zap (per [] (fun m => [(1 * m + 366, .lst [.bool false, .bool false, .bool false, .bool false, .bool false, .bool false, .bool false, zi 0])]) 9)
   (zap ([(375, .lst [zi 8, zi 5]),
    (376, .lst [zi 8, zi 5])])
   (zap (per [] (fun m => [(1 * m + 377, .lst [.bool false, .bool false, .bool false, .bool false, .bool false, .bool false, .bool false, zi 0])]) 9)
   (zap ([(386, .lst [zi 8, zi 6]),
    (387, .lst [zi 8, zi 6])])
   (zap (per [] (fun m => [(1 * m + 388, .lst [.bool false, .bool false, .bool false, .bool false, .bool false, .bool false, .bool false, zi 0])]) 9)
   (zap ([(397, .lst [zi 8, zi 7]),
    (398, .lst [zi 8, zi 7])])
   (zap (per [] (fun m => [(1 * m + 399, .lst [.bool false, .bool false, .bool false, .bool false, .bool false, .bool false, .bool false, zi 0])]) 9)
   (zap ([(408, .lst [zp 4 0]),
    (409, .lst [.fn 32 [] [zp 408 0]]),
    (410, .lst [.bool true]),
    (411, .lst [zi 2, zi 1, zi 8, zi 1, zi 1, .bool false]),
    (412, .lst [zp 23 0]),
    (413, .dead),
    (414, .lst [.yield (.of 413)]),
    (415, .lst [zp 23 0]),
    (416, .dead),
    (417, .lst [zi 0, zi 0]),
    (418, .lst [zi 0, zi 0])])
   (zap (per [] (fun m => [(1 * m + 419, .lst [.bool false, .bool false, .bool false, .bool false, .bool false, .bool false, .bool false, zi 0])]) 9)
   (zap ([(428, .lst [zi 0, zi 1]),
    (429, .lst [zi 0, zi 1])])
   (zap (per [] (fun m => [(1 * m + 430, .lst [.bool false, .bool false, .bool false, .bool false, .bool false, .bool false, .bool false, zi 0])]) 9)
   (zap ([(439, .lst [zi 0, zi 2]),
    (440, .lst [zi 0, zi 2])])
   (zap (per [] (fun m => [(1 * m + 441, .lst [.bool false, .bool false, .bool false, .bool false, .bool false, .bool false, .bool false, zi 0])]) 9)
   (zap ([(450, .lst [zi 0, zi 3]),
    (451, .lst [zi 0, zi 3])])
   (zap (per [] (fun m => [(1 * m + 452, .lst [.bool false, .bool false, .bool false, .bool false, .bool false, .bool false, .bool false, zi 0])]) 9)
   (zap ([(461, .lst [zi 0, zi 4]),
    (462, .lst [zi 0, zi 4])])
   (zap (per [] (fun m => [(1 * m + 463, .lst [.bool false, .bool false, .bool false, .bool false, .bool false, .bool false, .bool false, zi 0])]) 9)
   (zap ([(472, .lst [zi 0, zi 5]),
    (473, .lst [zi 0, zi 5])])
   (zap (per [] (fun m => [(1 * m + 474, .lst [.bool false, .bool false, .bool false, .bool false, .bool false, .bool false, .bool false, zi 0])]) 9)
   (zap ([(483, .lst [zi 0, zi 6]),
    (484, .lst [zi 0, zi 6])])
   (zap (per [] (fun m => [(1 * m + 485, .lst [.bool false, .bool false, .bool false, .bool false, .bool false, .bool false, .bool false, zi 0])]) 9)
   (zap ([(494, .lst [zi 0, zi 7]),
    (495, .lst [zi 0, zi 7])])
   (zap (per [] (fun m => [(1 * m + 496, .lst [.bool false, .bool false, .bool false, .bool false, .bool false, .bool false, .bool false, zi 0])]) 9)
   (zap ([(505, .lst [zp 55 0]),
    (506, .dead),
    (507, .lst [.yield (.of 506)]),
    (508, .lst [zp 55 0]),
    (509, .dead),
    (510, .lst [zi 8, zi 0]),
    (511, .lst [zi 8, zi 0])])
   (zap (per [] (fun m => [(1 * m + 512, .lst [.bool false, .bool false, .bool false, .bool false, .bool false, .bool false, .bool false, zi 0])]) 9)
   (zap ([(521, .lst [zi 8, zi 1]),
    (522, .lst [zi 8, zi 1])])
   (zap (per [] (fun m => [(1 * m + 523, .lst [.bool false, .bool false, .bool false, .bool false, .bool false, .bool false, .bool false, zi 0])]) 9)
   (zap ([(532, .lst [zi 8, zi 2]),
    (533, .lst [zi 8, zi 2])])
   (zap (per [] (fun m => [(1 * m + 534, .lst [.bool false, .bool false, .bool false, .bool false, .bool false, .bool false, .bool false, zi 0])]) 9)
   (zap ([(543, .lst [zi 8, zi 3]),
    (544, .lst [zi 8, zi 3])])
   (zap (per [] (fun m => [(1 * m + 545, .lst [.bool false, .bool false, .bool false, .bool false, .bool false, .bool false, .bool false, zi 0])]) 9)
   (zap ([(554, .lst [zi 8, zi 4]),
    (555, .lst [zi 8, zi 4])])
   (zap (per [] (fun m => [(1 * m + 556, .lst [.bool false, .bool false, .bool false, .bool false, .bool false, .bool false, .bool false, zi 0])]) 9)
   (zap ([(565, .lst [zi 8, zi 5]),
    (566, .lst [zi 8, zi 5])])
   (zap (per [] (fun m => [(1 * m + 567, .lst [.bool false, .bool false, .bool false, .bool false, .bool false, .bool false, .bool false, zi 0])]) 9)
   (zap ([(576, .lst [zi 8, zi 6]),
    (577, .lst [zi 8, zi 6])])
   (zap (per [] (fun m => [(1 * m + 578, .lst [.bool false, .bool false, .bool false, .bool false, .bool false, .bool false, .bool false, zi 0])]) 9)
   (zap ([(587, .lst [zi 8, zi 7]),
    (588, .lst [zi 8, zi 7])])
   (zap (per [] (fun m => [(1 * m + 589, .lst [.bool false, .bool false, .bool false, .bool false, .bool false, .bool false, .bool false, zi 0])]) 9)
   (zap ([(598, .lst [zi 2, zi 1, zi 8, zi 1, zi 1, .bool false]),
    (599, .lst [zp 79 0]),
    (600, .dead),
    (601, .lst [zp 4 0]),
    (602, .lst [.bool false]),
    (603, .lst [zi 0]),
    (604, .lst [zi 4096]),
    (605, .loop 0 (zt [(0, 1, zp 4 0), (1, 1, zp 601 0), (2, 1, zp 602 0), (5, 1, zp 4 0), (6, 1, .bool true), (7, 1, .bool false), (8, 1, .fn 58 [] [zp 603 0, zp 604 0])]) (rfP FT ⟨8, [1, 1, 0, 1, 0]⟩) (rfA FT ⟨8, [1, 1, 0, 1, 0]⟩) (rfB FT ⟨8, [1, 1, 0, 1, 0]⟩))])
   (zap (per [] (fun m => [(4 * m + 606, .lst [zi 0, .sl (.of (4 * m + 608)) 0 0 0 none]),
    (4 * m + 607, .lst [zi 0, .sl (.of (4 * m + 608)) 0 0 0 none]),
    (4 * m + 608, .big 0 1 [zi 0] (zt [])),
    (4 * m + 609, .lst [zi 0, .sl (.of (4 * m + 608)) 0 0 0 none])]) 2048)
   ([])))))))))))))))))))))))))))))))))))))))))))))))))))))))))))))))))))))))))))))))),
  [.loop ⟨58, [1, 0, 0]⟩ 97949,
  .blk 0,
  .rf ⟨8, [1, 1, 0, 1, 0]⟩ (zt [(0, 1, zp 4 0), (1, 1, zp 601 0), (2, 1, zp 602 0), (5, 1, zp 4 0), (6, 1, .bool true), (7, 1, .bool false), (8, 1, .fn 58 [] [zp 603 0, zp 604 0])]) (.of 605) 58,
  .blk 0,
  .seq ⟨8, [1, 1, 1]⟩ 99998,
  .call (some (.of 15)) ⟨9, [1, 0]⟩ 13 99999 (zt [(0, 1, zp 4 0), (2, 1, .bool false), (3, 1, zp 4 0), (4, 2, .bool true), (6, 1, zp 4 0), (7, 3, .bool true), (10, 1, zp 4 0), (11, 3, .bool true), (14, 1, zp 4 0)]) 8,
  .seq ⟨9, [1, 1]⟩ 99999,
  .call (some (.of 29)) ⟨10, [1, 1, 1, 1, 0]⟩ 10 100000 (zt [(0, 1, .bool false), (1, 1, zp 4 0), (2, 1, zi 0), (3, 1, zp 141 0), (4, 1, .tup [zp 4 0, zi 0]), (5, 1, .agg [zi 2, zi 1, zi 8, zi 1, zi 1, .bool false]), (6, 1, .tup [zp 4 0, zi 0]), (7, 1, zp 4 0), (8, 2, zi 0), (10, 2, .bool false), (12, 1, zp 4 0), (13, 2, .bool false), (15, 1, .tup [.agg [zi 14, zi 2, zi 0, zi 0], zi 0]), (16, 1, zp 4 0), (17, 1, .tup [.agg [zi 14, zi 2, zi 0, zi 0], zi 0]), (18, 1, .agg [zi 14, zi 2, zi 0, zi 0]), (19, 2, zi 0), (21, 2, .bool true), (23, 2, .agg [zi 14, zi 2, zi 0, zi 0]), (25, 3, .bool true), (28, 1, zp 4 0)]) 9,
  .seq ⟨10, [1, 1, 1, 1, 1]⟩ 100000,
  .base 10]⟩
noncomputable def z4 : St1 :=
⟨.n, 99997, zt [(0, 1, .yield (.of 605)), (1, 1, zp 603 0), (2, 1, zp 604 0), (4, 1, zi 3072), (5, 2, zi 0), (7, 1, zi 3071), (8, 2, zi 4096), (10, 1, .bool true), (11, 1, zi 3071), (12, 1, zi 3072), (13, 1, .yield (.of 605)), (14, 1, zi 3071), (15, 1, .bool true), (16, 1, .bool false)],
  .mk (.of 12894) (zh (zap ([(0, .lst [zi 2, zi 1, zi 8, zi 1, zi 1, .bool false]),
    (1, .lst [zi 2, zi 1, zi 8, zi 1, zi 1, .bool false]),
    (2, .big 15 15 [zi 0, zi 0, zi 0, zi 0, zi 0, zi 0, zi 0, zi 0, zi 0, zi 0, zi 0, zi 0, .bool false, zi 0, zi 0] (zt [])),
    (3, .big 16 8 [zi 0, zi 0, zi 0, zi 0, zi 0, .bool false, zi 0, zi 0] (zt [])),
    (4, .big 20 1 [] (zt [(0, 1, zi 2), (1, 1, zi 1), (2, 1, zi 8), (3, 2, zi 1), (5, 1, .bool false), (6, 1, zp 6 0), (7, 1, .sl (.of 74) 0 2 2 (some 1)), (8, 1, zp 10 0), (9, 1, zp 12 0), (10, 1, .sl (.of 76) 0 2 2 (some 1)), (11, 1, .sl (.of 78) 0 2 2 (some 1)), (12, 1, .sl (.of 81) 0 1 1 (some 1)), (13, 1, zp 14 0), (14, 1, .sl (.of 2) 0 1 1 none), (15, 1, .sl (.of 3) 0 2 2 none), (16, 1, zi 0), (17, 3, .nils)])),
    (5, .big 160 10 [.int .u64 (.ofNat 0), .int .u64 (.ofNat 0), .int .u64 (.ofNat 0), .int .u64 (.ofNat 0), .int .u64 (.ofNat 0), .int .u64 (.ofNat 0), .int .u64 (.ofNat 0), .int .u64 (.ofNat 0), zi 0, zi 0] (zt [(8, 1, zi 1), (9, 1, zi 0), (88, 2, zi 1)])),
    (6, .lst [zi 2, zi 8, .sl (.of 5) 0 16 16 none]),
    (7, .mp []),
    (8, .mp []),
    (9, .mp []),
    (10, .lst [zi 2, zi 8, .map (.of 7), .map (.of 8), .map (.of 9)]),
    (11, .big 9 9 [zi 0, zi 0, zi 0, zi 0, zi 0, zi 0, zi 0, zi 0, zi 0] (zt [])),
    (12, .lst [.sl (.of 11) 0 1 1 none, zi 0, zi 0]),
    (13, .big 1 1 [.nils] (zt [])),
    (14, .lst [.sl (.of 13) 0 1 1 none, zi 0]),
    (15, .big 16 2 [zi 0, zi 0] (zt [(0, 1, zi 2), (1, 1, zi 0), (2, 1, zi 1), (3, 1, zi 0), (4, 2, zi 1), (8, 1, zi 1), (9, 1, zi 2)])),
    (16, .lst [zi 0, .sl (.of 15) 0 8 8 none]),
    (17, .lst [.bool true]),
    (18, .lst [zp 16 0]),
    (19, .lst [zi 1]),
    (20, .dead),
    (21, .lst [zi 1, zi 3]),
    (22, .mp []),
    (23, .lst [zp 6 0, zp 16 0, zi 0, zi 0, .sl (.of 35) 0 1 1 (some 1), .map (.of 22)]),
    (24, .lst [zi 1, zi 3])])
   (zap (per [] (fun m => [(1 * m + 25, .lst [zi 0, zi 0])]) 7)
   (zap ([(32, .lst [zi 1, zi 0]),
    (33, .lst [zi 1, zi 0]),
    (34, .lst [zi 0]),
    (35, .lst [zi 0]),
    (36, .lst [.nils, .bool true]),
    (37, .lst [zi 2, zp 36 0]),
    (38, .lst [zp 37 0, zp 23 0, zi 0]),
    (39, .mp []),
    (40, .lst [zi 0, zi 2, zi 1, .map (.of 39), .nils, .bool false, zi 0]),
    (41, .lst [zp 16 0]),
    (42, .dead),
    (43, .lst [zp 38 0]),
    (44, .dead),
    (45, .lst [zp 40 0]),
    (46, .dead),
    (47, .big 16 2 [zi 0, zi 0] (zt [(0, 1, zi 2), (1, 1, zi 0), (2, 1, zi 1), (3, 1, zi 0), (4, 2, zi 1), (8, 1, zi 1), (9, 1, zi 2)])),
    (48, .lst [zi 8, .sl (.of 47) 0 8 8 none]),
    (49, .lst [.bool true]),
    (50, .lst [zp 48 0]),
    (51, .lst [zi 1]),
    (52, .dead),
    (53, .lst [zi 1, zi 3]),
    (54, .mp []),
    (55, .lst [zp 6 0, zp 48 0, zi 1, zi 8, .sl (.of 67) 0 1 1 (some 1), .map (.of 54)]),
    (56, .lst [zi 1, zi 3])])
   (zap (per [] (fun m => [(1 * m + 57, .lst [zi 0, zi 0])]) 7)
   (zap ([(64, .lst [zi 1, zi 1]),
    (65, .lst [zi 1, zi 1]),
    (66, .lst [zi 8]),
    (67, .lst [zi 8]),
    (68, .lst [.nils, .bool true]),
    (69, .lst [zi 2, zp 68 0]),
    (70, .lst [zp 69 0, zp 55 0, zi 0]),
    (71, .mp []),
    (72, .lst [zi 1, zi 2, zi 1, .map (.of 71), .nils, .bool false, zi 0]),
    (73, .lst [zp 48 0]),
    (74, .lst [zp 16 0, zp 48 0]),
    (75, .lst [zp 70 0]),
    (76, .lst [zp 38 0, zp 70 0]),
    (77, .lst [zp 72 0]),
    (78, .lst [zp 40 0, zp 72 0]),
    (79, .big 259 1 [] (zt [(0, 3, zi 0), (3, 1, .bool false), (4, 3, zi 0), (7, 1, .bool false), (8, 3, zi 0), (11, 1, .bool false), (12, 3, zi 0), (15, 1, .bool false), (16, 3, zi 0), (19, 1, .bool false), (20, 3, zi 0), (23, 1, .bool false), (24, 3, zi 0), (27, 1, .bool false), (28, 3, zi 0), (31, 1, .bool false), (32, 3, zi 0), (35, 1, .bool false), (36, 3, zi 0), (39, 1, .bool false), (40, 3, zi 0), (43, 1, .bool false), (44, 3, zi 0), (47, 1, .bool false), (48, 3, zi 0), (51, 1, .bool false), (52, 3, zi 0), (55, 1, .bool false), (56, 3, zi 0), (59, 1, .bool false), (60, 3, zi 0), (63, 1, .bool false), (64, 3, zi 0), (67, 1, .bool false), (68, 3, zi 0), (71, 1, .bool false), (72, 3, zi 0), (75, 1, .bool false), (76, 3, zi 0), (79, 1, .bool false), (80, 3, zi 0), (83, 1, .bool false), (84, 3, zi 0), (87, 1, .bool false), (88, 3, zi 0), (91, 1, .bool false), (92, 3, zi 0), (95, 1, .bool false), (96, 3, zi 0), (99, 1, .bool false), (100, 3, zi 0), (103, 1, .bool false), (104, 3, zi 0), (107, 1, .bool false), (108, 3, zi 0), (111, 1, .bool false), (112, 3, zi 0), (115, 1, .bool false), (116, 3, zi 0), (119, 1, .bool false), (120, 3, zi 0), (123, 1, .bool false), (124, 3, zi 0), (127, 1, .bool false), (128, 3, zi 0), (131, 1, .bool false), (132, 3, zi 0), (135, 1, .bool false), (136, 3, zi 0), (139, 1, .bool false), (140, 3, zi 0), (143, 1, .bool false), (144, 3, zi 0), (147, 1, .bool false), (148, 3, zi 0), (151, 1, .bool false), (152, 3, zi 0), (155, 1, .bool false), (156, 3, zi 0), (159, 1, .bool false), (160, 3, zi 0), (163, 1, .bool false), (164, 3, zi 0), (167, 1, .bool false), (168, 3, zi 0), (171, 1, .bool false), (172, 3, zi 0), (175, 1, .bool false), (176, 3, zi 0), (179, 1, .bool false), (180, 3, zi 0), (183, 1, .bool false), (184, 3, zi 0), (187, 1, .bool false), (188, 3, zi 0), (191, 1, .bool false), (192, 3, zi 0), (195, 1, .bool false), (196, 3, zi 0), (199, 1, .bool false), (200, 3, zi 0), (203, 1, .bool false), (204, 3, zi 0), (207, 1, .bool false), (208, 3, zi 0), (211, 1, .bool false), (212, 3, zi 0), (215, 1, .bool false), (216, 3, zi 0), (219, 1, .bool false), (220, 3, zi 0), (223, 1, .bool false), (224, 3, zi 0), (227, 1, .bool false), (228, 3, zi 0), (231, 1, .bool false), (232, 3, zi 0), (235, 1, .bool false), (236, 3, zi 0), (239, 1, .bool false), (240, 3, zi 0), (243, 1, .bool false), (244, 3, zi 0), (247, 1, .bool false), (248, 3, zi 0), (251, 1, .bool false), (252, 3, zi 0), (255, 1, .bool false), (256, 2, zi 0), (258, 1, zi 1)])),
    (80, .lst [zp 79 0]),
    (81, .lst [zp 79 0]),
    (82, .lst [zi 14, zi 2, zi 0, zi 0]),
    (83, .lst [zi 14, zi 2, zi 0, zi 0]),
    (84, .lst [zi 2, zi 1, zi 8, zi 1, zi 1, .bool false]),
    (85, .lst [zi 7]),
    (86, .lst [zp 16 0]),
    (87, .lst [zi 1]),
    (88, .dead),
    (89, .lst [zi 2, zi 0]),
    (90, .lst [zi 1, zi 0]),
    (91, .lst [zi 1, zi 0]),
    (92, .lst [zi 1, zi 1]),
    (93, .lst [zi 2, zi 1]),
    (94, .lst [zi 0, zi 0]),
    (95, .lst [zi 1, zi 2]),
    (96, .lst [zi 4, zi 2]),
    (97, .lst [zi 0, zi 0]),
    (98, .lst [zi 0, zi 0]),
    (99, .lst [zi 0, zi 0]),
    (100, .big 10 1 [] (zt [(0, 8, .int .u64 (.ofNat 0)), (8, 1, zi 1), (9, 1, zi 0)]))])
   (zap (per [] (fun m => [(1 * m + 101, .big 10 1 [] (zt [(0, 8, .int .u64 (.ofNat 0)), (8, 2, zi 0)]))]) 7)
   (zap ([(108, .lst [zi 0, zi 0, zi 0, zi 0, zi 0, .bool false, zi 0, zi 0]),
    (109, .lst [zi 0, zi 0, zi 0, zi 0, zi 0, .bool false, zi 0, zi 0]),
    (110, .lst [zi 7]),
    (111, .lst [zp 48 0]),
    (112, .lst [zi 1]),
    (113, .dead),
    (114, .lst [zi 2, zi 0]),
    (115, .lst [zi 1, zi 0]),
    (116, .lst [zi 9, zi 0]),
    (117, .lst [zi 1, zi 1]),
    (118, .lst [zi 10, zi 1]),
    (119, .lst [zi 0, zi 0]),
    (120, .lst [zi 1, zi 2]),
    (121, .lst [zi 12, zi 2]),
    (122, .lst [zi 0, zi 0]),
    (123, .lst [zi 0, zi 0]),
    (124, .lst [zi 0, zi 0]),
    (125, .big 10 1 [] (zt [(0, 8, .int .u64 (.ofNat 0)), (8, 2, zi 1)]))])
   (zap (per [] (fun m => [(1 * m + 126, .big 10 1 [] (zt [(0, 8, .int .u64 (.ofNat 0)), (8, 2, zi 0)]))]) 7)
   (zap ([(133, .lst [zi 0, zi 0, zi 0, zi 0, zi 0, .bool false, zi 0, zi 0]),
    (134, .lst [zi 0, zi 0, zi 0, zi 0, zi 0, .bool false, zi 0, zi 0]),
    (135, .lst [zp 10 0]),
    (136, .dead),
    (137, .lst [.map (.of 9)]),
    (138, .lst [.nils]),
    (139, .dead),
    (140, .iter (some (.of 9))),
    (141, .lst [zi 14, zi 2, zi 0, zi 0]),
    (142, .lst [zi 2, zi 1, zi 8, zi 1, zi 1, .bool false]),
    (143, .lst [zi 2, zi 1, zi 8, zi 1, zi 1, .bool false]),
    (144, .big 16 1 [zi 0] (zt [(1, 7, zi 1), (9, 7, zi 1)])),
    (145, .lst [.sl (.of 144) 0 16 16 none]),
    (146, .lst [.fn 21 [] [zp 145 0]]),
    (147, .lst [zp 16 0]),
    (148, .lst [zi 1]),
    (149, .dead),
    (150, .lst [zi 2, zi 0]),
    (151, .lst [zi 1, zi 0]),
    (152, .lst [zi 1, zi 0]),
    (153, .lst [zi 1, zi 1]),
    (154, .lst [zi 2, zi 1]),
    (155, .lst [zi 0, zi 0]),
    (156, .lst [zi 1, zi 2]),
    (157, .lst [zi 4, zi 2]),
    (158, .lst [zi 0, zi 0]),
    (159, .lst [zi 0, zi 0]),
    (160, .lst [zi 0, zi 0]),
    (161, .lst [zi 0, zi 0, zi 0, zi 0, zi 0, .bool false, zi 0, zi 0]),
    (162, .lst [zi 0, zi 0, zi 0, zi 0, zi 0, .bool false, zi 0, zi 0]),
    (163, .lst [zp 48 0]),
    (164, .lst [zi 1]),
    (165, .dead),
    (166, .lst [zi 2, zi 0]),
    (167, .lst [zi 1, zi 0]),
    (168, .lst [zi 9, zi 0]),
    (169, .lst [zi 1, zi 1]),
    (170, .lst [zi 10, zi 1]),
    (171, .lst [zi 0, zi 0]),
    (172, .lst [zi 1, zi 2]),
    (173, .lst [zi 12, zi 2]),
    (174, .lst [zi 0, zi 0]),
    (175, .lst [zi 0, zi 0]),
    (176, .lst [zi 0, zi 0]),
    (177, .lst [zi 0, zi 0, zi 0, zi 0, zi 0, .bool false, zi 0, zi 0]),
    (178, .lst [zi 0, zi 0, zi 0, zi 0, zi 0, .bool false, zi 0, zi 0]),
    (179, .lst [zp 10 0]),
    (180, .dead),
    (181, .lst [.map (.of 9)]),
    (182, .lst [.nils]),
    (183, .dead),
    (184, .iter (some (.of 9))),
    (185, .lst [zi 1, zi 0]),
    (186, .lst [zi 1, zi 0])])
   (zap (per [] (fun m => [(1 * m + 187, .lst [zi 0, zi 0])]) 14)
   (zap ([(201, .lst [zi 1, zi 1]),
    (202, .lst [zi 1, zi 1])])
   (zap (per [] (fun m => [(1 * m + 203, .lst [zi 0, zi 0])]) 14)
   (zap ([(217, .lst [zi 2, zi 1, zi 8, zi 1, zi 1, .bool false]),
    (218, .lst [zp 38 0]),
    (219, .lst [.bool true]),
    (220, .lst [zp 23 0]),
    (221, .dead),
    (222, .lst [.yield (.of 221)]),
    (223, .lst [zp 23 0]),
    (224, .dead),
    (225, .lst [zi 0, zi 0]),
    (226, .lst [zi 0, zi 0])])
   (zap (per [] (fun m => [(1 * m + 227, .lst [.bool false, .bool false, .bool false, .bool false, .bool false, .bool false, .bool false, zi 0])]) 9)
   (zap ([(236, .lst [zi 0, zi 1]),
    (237, .lst [zi 0, zi 1])])
   (zap (per [] (fun m => [(1 * m + 238, .lst [.bool false, .bool false, .bool false, .bool false, .bool false, .bool false, .bool false, zi 0])]) 9)
   (zap ([(247, .lst [zi 0, zi 2]),
    (248, .lst [zi 0, zi 2])])
   (zap (per [] (fun m => [(1 * m + 249, .lst [.bool false, .bool false, .bool false, .bool false, .bool false, .bool false, .bool false, zi 0])]) 9)
   (zap ([(258, .lst [zi 0, zi 3]),
    (259, .lst [zi 0, zi 3])])
   (zap (per [] (fun m => [(1 * m + 260, .lst [.bool false, .bool false, .bool false, .bool false, .bool false, .bool false, .bool false, zi 0])]) 9)
   (zap ([(269, .lst [zi 0, zi 4]),
    (270, .lst [zi 0, zi 4])])
   (zap (per [] (fun m => [(1 * m + 271, .lst [.bool false, .bool false, .bool false, .bool false, .bool false, .bool false, .bool false, zi 0])]) 9)
   (zap ([(280, .lst [zi 0, zi 5]),
    (281, .lst [zi 0, zi 5])])
   (zap (per [] (fun m => [(1 * m + 282, .lst [.bool false, .bool false, .bool false, .bool false, .bool false, .bool false, .bool false, zi 0])]) 9)
   (zap ([(291, .lst [zi 0, zi 6]),
    (292, .lst [zi 0, zi 6])])
   (zap (per [] (fun m => [(1 * m + 293, .lst [.bool false, .bool false, .bool false, .bool false, .bool false, .bool false, .bool false, zi 0])]) 9)
   (zap ([(302, .lst [zi 0, zi 7]),
    (303, .lst [zi 0, zi 7])])
   (zap (per [] (fun m => [(1 * m + 304, .lst [.bool false, .bool false, .bool false, .bool false, .bool false, .bool false, .bool false, zi 0])]) 9)
   (zap ([(313, .lst [zp 70 0]),
    (314, .lst [.bool true]),
    (315, .lst [zp 55 0]),
    (316, .dead),
    (317, .lst [.yield (.of 316)]),
    (318, .lst [zp 55 0]),
    (319, .dead),
    (320, .lst [zi 8, zi 0]),
    (321, .lst [zi 8, zi 0])])
   (zap (per [] (fun m => [(1 * m + 322, .lst [.bool false, .bool false, .bool false, .bool false, .bool false, .bool false, .bool false, zi 0])]) 9)
   (zap ([(331, .lst [zi 8, zi 1]),
    (332, .lst [zi 8, zi 1])])
   (zap (per [] (fun m => [(1 * m + 333, .lst [.bool false, .bool false, .bool false, .bool false, .bool false, .bool false, .bool false, zi 0])]) 9)
   (zap ([(342, .lst [zi 8, zi 2]),
    (343, .lst [zi 8, zi 2])])
   (zap (per [] (fun m => [(1 * m + 344, .lst [.bool false, .bool false, .bool false, .bool false, .bool false, .bool false, .bool false, zi 0])]) 9)
   (zap ([(353, .lst [zi 8, zi 3]),
    (354, .lst [zi 8, zi 3])])
   (zap (per [] (fun m => [(1 * m + 355, .lst [.bool false, .bool false, .bool false, .bool false, .bool false, .bool false, .bool false, zi 0])]) 9)
   (zap ([(364, .lst [zi 8, zi 4]),
    (365, .lst [zi 8, zi 4])])
   (zap (per [] (fun m => [(1 * m + 366, .lst [.bool false, .bool false, .bool false, .bool false, .bool false, .bool false, .bool false, zi 0])]) 9)
   (zap ([(375, .lst [zi 8, zi 5]),
    (376, .lst [zi 8, zi 5])])
   (zap (per [] (fun m => [(1 * m + 377, .lst [.bool false, .bool false, .bool false, .bool false, .bool false, .bool false, .bool false, zi 0])]) 9)
   (zap ([(386, .lst [zi 8, zi 6]),
    (387, .lst [zi 8, zi 6])])
   (zap (per [] (fun m => [(1 * m + 388, .lst [.bool false, .bool false, .bool false, .bool false, .bool false, .bool false, .bool false, zi 0])]) 9)
   (zap ([(397, .lst [zi 8, zi 7]),
    (398, .lst [zi 8, zi 7])])
   (zap (per [] (fun m => [(1 * m + 399, .lst [.bool false, .bool false, .bool false, .bool false, .bool false, .bool false, .bool false, zi 0])]) 9)
   (zap ([(408, .lst [zp 4 0]),
    (409, .lst [.fn 32 [] [zp 408 0]]),
    (410, .lst [.bool true]),
    (411, .lst [zi 2, zi 1, zi 8, zi 1, zi 1, .bool false]),
    (412, .lst [zp 23 0]),
    (413, .dead),
    (414, .lst [.yield (.of 413)]),
    (415, .lst [zp 23 0]),
    (416, .dead),
    (417, .lst [zi 0, zi 0]),
    (418, .lst [zi 0, zi 0])])
   (zap (per [] (fun m => [(1 * m + 419, .lst [.bool false, .bool false, .bool false, .bool false, .bool false, .bool false, .bool false, zi 0])]) 9)
   (zap ([(428, .lst [zi 0, zi 1]),
    (429, .lst [zi 0, zi 1])])
   (zap (per [] (fun m => [(1 * m + 430, .lst [.bool false, .bool false, .bool false, .bool false, .bool false, .bool false, .bool false, zi 0])]) 9)
   (zap ([(439, .lst [zi 0, zi 2]),
    (440, .lst [zi 0, zi 2])])
   (zap (per [] (fun m => [(1 * m + 441, .lst [.bool false, .bool false, .bool false, .bool false, .bool false, .bool false, .bool false, zi 0])]) 9)
   (zap ([(450, .lst [zi 0, zi 3]),
    (451, .lst [zi 0, zi 3])])
   (zap (per [] (fun m => [(1 * m + 452, .lst [.bool false, .bool false, .bool false, .bool false, .bool false, .bool false, .bool false, zi 0])]) 9)
   (zap ([(461, .lst [zi 0, zi 4]),
    (462, .lst [zi 0, zi 4])])
   (zap (per [] (fun m => [(1 * m + 463, .lst [.bool false, .bool false, .bool false, .bool false, .bool false, .bool false, .bool false, zi 0])]) 9)
   (zap ([(472, .lst [zi 0, zi 5]),
    (473, .lst [zi 0, zi 5])])
   (zap (per [] (fun m => [(1 * m + 474, .lst [.bool false, .bool false, .bool false, .bool false, .bool false, .bool false, .bool false, zi 0])]) 9)
   (zap ([(483, .lst [zi 0, zi 6]),
    (484, .lst [zi 0, zi 6])])
   (zap (per [] (fun m => [(1 * m + 485, .lst [.bool false, .bool false, .bool false, .bool false, .bool false, .bool false, .bool false, zi 0])]) 9)
   (zap ([(494, .lst [zi 0, zi 7]),
    (495, .lst [zi 0, zi 7])])
   (zap (per [] (fun m => [(1 * m + 496, .lst [.bool false, .bool false, .bool false, .bool false, .bool false, .bool false, .bool false, zi 0])]) 9)
   (zap ([(505, .lst [zp 55 0]),
    (506, .dead),
    (507, .lst [.yield (.of 506)]),
    (508, .lst [zp 55 0]),
    (509, .dead),
    (510, .lst [zi 8, zi 0]),
    (511, .lst [zi 8, zi 0])])
   (zap (per [] (fun m => [(1 * m + 512, .lst [.bool false, .bool false, .bool false, .bool false, .bool false, .bool false, .bool false, zi 0])]) 9)
   (zap ([(521, .lst [zi 8, zi 1]),
    (522, .lst [zi 8, zi 1])])
   (zap (per [] (fun m => [(1 * m + 523, .lst [.bool false, .bool false, .bool false, .bool false, .bool false, .bool false, .bool false, zi 0])]) 9)
   (zap ([(532, .lst [zi 8, zi 2]),
    (533, .lst [zi 8, zi 2])])
   (zap (per [] (fun m => [(1 * m + 534, .lst [.bool false, .bool false, .bool false, .bool false, .bool false, .bool false, .bool false, zi 0])]) 9)
   (zap ([(543, .lst [zi 8, zi 3]),
    (544, .lst [zi 8, zi 3])])
   (zap (per [] (fun m => [(1 * m + 545, .lst [.bool false, .bool false, .bool false, .bool false, .bool false, .bool false, .bool false, zi 0])]) 9)
   (zap ([(554, .lst [zi 8, zi 4]),
    (555, .lst [zi 8, zi 4])])
   (zap (per [] (fun m => [(1 * m + 556, .lst [.bool false, .bool false, .bool false, .bool false, .bool false, .bool false, .bool false, zi 0])]) 9)
   (zap ([(565, .lst [zi 8, zi 5]),
    (566, .lst [zi 8, zi 5])])
   (zap (per [] (fun m => [(1 * m + 567, .lst [.bool false, .bool false, .bool false, .bool false, .bool false, .bool false, .bool false, zi 0])]) 9)
   (zap ([(576, .lst [zi 8, zi 6]),
    (577, .lst [zi 8, zi 6])])
   (zap (per [] (fun m => [(1 * m + 578, .lst [.bool false, .bool false, .bool false, .bool false, .bool false, .bool false, .bool false, zi 0])]) 9)
   (zap ([(587, .lst [zi 8, zi 7]),
    (588, .lst [zi 8, zi 7])])
   (zap (per [] (fun m => [(1 * m + 589, .lst [.bool false, .bool false, .bool false, .bool false, .bool false, .bool false, .bool false, zi 0])]) 9)
   (zap ([(598, .lst [zi 2, zi 1, zi 8, zi 1, zi 1, .bool false]),
    (599, .lst [zp 79 0]),
    (600, .dead),
    (601, .lst [zp 4 0]),
    (602, .lst [.bool false]),
    (603, .lst [zi 0]),
    (604, .lst [zi 4096]),
    (605, .loop 0 (zt [(0, 1, zp 4 0), (1, 1, zp 601 0), (2, 1, zp 602 0), (5, 1, zp 4 0), (6, 1, .bool true), (7, 1, .bool false), (8, 1, .fn 58 [] [zp 603 0, zp 604 0])]) (rfP FT ⟨8, [1, 1, 0, 1, 0]⟩) (rfA FT ⟨8, [1, 1, 0, 1, 0]⟩) (rfB FT ⟨8, [1, 1, 0, 1, 0]⟩))])
   (zap (per [] (fun m => [(4 * m + 606, .lst [zi 0, .sl (.of (4 * m + 608)) 0 0 0 none]),
    (4 * m + 607, .lst [zi 0, .sl (.of (4 * m + 608)) 0 0 0 none]),
    (4 * m + 608, .big 0 1 [zi 0] (zt [])),
    (4 * m + 609, .lst [zi 0, .sl (.of (4 * m + 608)) 0 0 0 none])]) 3072)
   ([])))))))))))))))))))))))))))))))))))))))))))))))))))))))))))))))))))))))))))))))),
  [.loop ⟨58, [1, 0, 0]⟩ 96925,
  .blk 0,
  .rf ⟨8, [1, 1, 0, 1, 0]⟩ (zt [(0, 1, zp 4 0), (1, 1, zp 601 0), (2, 1, zp 602 0), (5, 1, zp 4 0), (6, 1, .bool true), (7, 1, .bool false), (8, 1, .fn 58 [] [zp 603 0, zp 604 0])]) (.of 605) 58,
  .blk 0,
  .seq ⟨8, [1, 1, 1]⟩ 99998,
  .call (some (.of 15)) ⟨9, [1, 0]⟩ 13 99999 (zt [(0, 1, zp 4 0), (2, 1, .bool false), (3, 1, zp 4 0), (4, 2, .bool true), (6, 1, zp 4 0), (7, 3, .bool true), (10, 1, zp 4 0), (11, 3, .bool true), (14, 1, zp 4 0)]) 8,
  .seq ⟨9, [1, 1]⟩ 99999,
  .call (some (.of 29)) ⟨10, [1, 1, 1, 1, 0]⟩ 10 100000 (zt [(0, 1, .bool false), (1, 1, zp 4 0), (2, 1, zi 0), (3, 1, zp 141 0), (4, 1, .tup [zp 4 0, zi 0]), (5, 1, .agg [zi 2, zi 1, zi 8, zi 1, zi 1, .bool false]), (6, 1, .tup [zp 4 0, zi 0]), (7, 1, zp 4 0), (8, 2, zi 0), (10, 2, .bool false), (12, 1, zp 4 0), (13, 2, .bool false), (15, 1, .tup [.agg [zi 14, zi 2, zi 0, zi 0], zi 0]), (16, 1, zp 4 0), (17, 1, .tup [.agg [zi 14, zi 2, zi 0, zi 0], zi 0]), (18, 1, .agg [zi 14, zi 2, zi 0, zi 0]), (19, 2, zi 0), (21, 2, .bool true), (23, 2, .agg [zi 14, zi 2, zi 0, zi 0]), (25, 3, .bool true), (28, 1, zp 4 0)]) 9,
  .seq ⟨10, [1, 1, 1, 1, 1]⟩ 100000,
  .base 10]⟩
noncomputable def z5 : St1 :=
⟨.n, 99997, zt [(0, 1, .yield (.of 605)), (1, 1, zp 603 0), (2, 1, zp 604 0), (4, 1, zi 3772), (5, 2, zi 0), (7, 1, zi 3771), (8, 2, zi 4096), (10, 1, .bool true), (11, 1, zi 3771), (12, 1, zi 3772), (13, 1, .yield (.of 605)), (14, 1, zi 3771), (15, 1, .bool true), (16, 1, .bool false)],
  .mk (.of 15694) (zh (zap ([(0, .lst [zi 2, zi 1, zi 8, zi 1, zi 1, .bool false]),
    (1, .lst [zi 2, zi 1, zi 8, zi 1, zi 1, .bool false]),
    (2, .big 15 15 [zi 0, zi 0, zi 0, zi 0, zi 0, zi 0, zi 0, zi 0, zi 0, zi 0, zi 0, zi 0, .bool false, zi 0, zi 0] (zt [])),
    (3, .big 16 8 [zi 0, zi 0, zi 0, zi 0, zi 0, .bool false, zi 0, zi 0] (zt [])),
    (4, .big 20 1 [] (zt [(0, 1, zi 2), (1, 1, zi 1), (2, 1, zi 8), (3, 2, zi 1), (5, 1, .bool false), (6, 1, zp 6 0), (7, 1, .sl (.of 74) 0 2 2 (some 1)), (8, 1, zp 10 0), (9, 1, zp 12 0), (10, 1, .sl (.of 76) 0 2 2 (some 1)), (11, 1, .sl (.of 78) 0 2 2 (some 1)), (12, 1, .sl (.of 81) 0 1 1 (some 1)), (13, 1, zp 14 0), (14, 1, .sl (.of 2) 0 1 1 none), (15, 1, .sl (.of 3) 0 2 2 none), (16, 1, zi 0), (17, 3, .nils)])),
    (5, .big 160 10 [.int .u64 (.ofNat 0), .int .u64 (.ofNat 0), .int .u64 (.ofNat 0), .int .u64 (.ofNat 0), .int .u64 (.ofNat 0), .int .u64 (.ofNat 0), .int .u64 (.ofNat 0), .int .u64 (.ofNat 0), zi 0, zi 0] (zt [(8, 1, zi 1), (9, 1, zi 0), (88, 2, zi 1)])),
    (6, .lst [zi 2, zi 8, .sl (.of 5) 0 16 16 none]),
    (7, .mp []),
    (8, .mp []),
    (9, .mp []),
    (10, .lst [zi 2, zi 8, .map (.of 7), .map (.of 8), .map (.of 9)]),
    (11, .big 9 9 [zi 0, zi 0, zi 0, zi 0, zi 0, zi 0, zi 0, zi 0, zi 0] (zt [])),
    (12, .lst [.sl (.of 11) 0 1 1 none, zi 0, zi 0]),
    (13, .big 1 1 [.nils] (zt [])),
    (14, .lst [.sl (.of 13) 0 1 1 none, zi 0]),
    (15, .big 16 2 [zi 0, zi 0] (zt [(0, 1, zi 2), (1, 1, zi 0), (2, 1, zi 1), (3, 1, zi 0), (4, 2, zi 1), (8, 1, zi 1), (9, 1, zi 2)])),
    (16, .lst [zi 0, .sl (.of 15) 0 8 8 none]),
    (17, .lst [.bool true]),
    (18, .lst [zp 16 0]),
    (19, .lst [zi 1]),
    (20, .dead),
    (21, .lst [zi 1, zi 3]),
    (22, .mp []),
    (23, .lst [zp 6 0, zp 16 0, zi 0, zi 0, .sl (.of 35) 0 1 1 (some 1), .map (.of 22)]),
    (24, .lst [zi 1, zi 3])])
   (zap (per [] (fun m => [(1 * m + 25, .lst [zi 0, zi 0])]) 7)
   (zap ([(32, .lst [zi 1, zi 0]),
    (33, .lst [zi 1, zi 0]),
    (34, .lst [zi 0]),
    (35, .lst [zi 0]),
    (36, .lst [.nils, .bool true]),
    (37, .lst [zi 2, zp 36 0]),
    (38, .lst [zp 37 0, zp 23 0, zi 0]),
    (39, .mp []),
    (40, .lst [zi 0, zi 2, zi 1, .map (.of 39), .nils, .bool false, zi 0]),
    (41, .lst [zp 16 0]),
    (42, .dead),
    (43, .lst [zp 38 0]),
    (44, .dead),
    (45, .lst [zp 40 0]),
    (46, .dead),
    (47, .big 16 2 [zi 0, zi 0] (zt [(0, 1, zi 2), (1, 1, zi 0), (2, 1, zi 1), (3, 1, zi 0), (4, 2, zi 1), (8, 1, zi 1), (9, 1, zi 2)])),
    (48, .lst [zi 8, .sl (.of 47) 0 8 8 none]),
    (49, .lst [.bool true]),
    (50, .lst [zp 48 0]),
    (51, .lst [zi 1]),
    (52, .dead),
    (53, .lst [zi 1, zi 3]),
    (54, .mp []),
    (55, .lst [zp 6 0, zp 48 0, zi 1, zi 8, .sl (.of 67) 0 1 1 (some 1), .map (.of 54)]),
    (56, .lst [zi 1, zi 3])])
   (zap (per [] (fun m => [(1 * m + 57, .lst [zi 0, zi 0])]) 7)
   (zap ([(64, .lst [zi 1, zi 1]),
    (65, .lst [zi 1, zi 1]),
    (66, .lst [zi 8]),
    (67, .lst [zi 8]),
    (68, .lst [.nils, .bool true]),
    (69, .lst [zi 2, zp 68 0]),
    (70, .lst [zp 69 0, zp 55 0, zi 0]),
    (71, .mp []),
    (72, .lst [zi 1, zi 2, zi 1, .map (.of 71), .nils, .bool false, zi 0]),
    (73, .lst [zp 48 0]),
    (74, .lst [zp 16 0, zp 48 0]),
    (75, .lst [zp 70 0]),
    (76, .lst [zp 38 0, zp 70 0]),
    (77, .lst [zp 72 0]),
    (78, .lst [zp 40 0, zp 72 0]),
    (79, .big 259 1 [] (zt [(0, 3, zi 0), (3, 1, .bool false), (4, 3, zi 0), (7, 1, .bool false), (8, 3, zi 0), (11, 1, .bool false), (12, 3, zi 0), (15, 1, .bool false), (16, 3, zi 0), (19, 1, .bool false), (20, 3, zi 0), (23, 1, .bool false), (24, 3, zi 0), (27, 1, .bool false), (28, 3, zi 0), (31, 1, .bool false), (32, 3, zi 0), (35, 1, .bool false), (36, 3, zi 0), (39, 1, .bool false), (40, 3, zi 0), (43, 1, .bool false), (44, 3, zi 0), (47, 1, .bool false), (48, 3, zi 0), (51, 1, .bool false), (52, 3, zi 0), (55, 1, .bool false), (56, 3, zi 0), (59, 1, .bool false), (60, 3, zi 0), (63, 1, .bool false), (64, 3, zi 0), (67, 1, .bool false), (68, 3, zi 0), (71, 1, .bool false), (72, 3, zi 0), (75, 1, .bool false), (76, 3, zi 0), (79, 1, .bool false), (80, 3, zi 0), (83, 1, .bool false), (84, 3, zi 0), (87, 1, .bool false), (88, 3, zi 0), (91, 1, .bool false), (92, 3, zi 0), (95, 1, .bool false), (96, 3, zi 0), (99, 1, .bool false), (100, 3, zi 0), (103, 1, .bool false), (104, 3, zi 0), (107, 1, .bool false), (108, 3, zi 0), (111, 1, .bool false), (112, 3, zi 0), (115, 1, .bool false), (116, 3, zi 0), (119, 1, .bool false), (120, 3, zi 0), (123, 1, .bool false), (124, 3, zi 0), (127, 1, .bool false), (128, 3, zi 0), (131, 1, .bool false), (132, 3, zi 0), (135, 1, .bool false), (136, 3, zi 0), (139, 1, .bool false), (140, 3, zi 0), (143, 1, .bool false), (144, 3, zi 0), (147, 1, .bool false), (148, 3, zi 0), (151, 1, .bool false), (152, 3, zi 0), (155, 1, .bool false), (156, 3, zi 0), (159, 1, .bool false), (160, 3, zi 0), (163, 1, .bool false), (164, 3, zi 0), (167, 1, .bool false), (168, 3, zi 0), (171, 1, .bool false), (172, 3, zi 0), (175, 1, .bool false), (176, 3, zi 0), (179, 1, .bool false), (180, 3, zi 0), (183, 1, .bool false), (184, 3, zi 0), (187, 1, .bool false), (188, 3, zi 0), (191, 1, .bool false), (192, 3, zi 0), (195, 1, .bool false), (196, 3, zi 0), (199, 1, .bool false), (200, 3, zi 0), (203, 1, .bool false), (204, 3, zi 0), (207, 1, .bool false), (208, 3, zi 0), (211, 1, .bool false), (212, 3, zi 0), (215, 1, .bool false), (216, 3, zi 0), (219, 1, .bool false), (220, 3, zi 0), (223, 1, .bool false), (224, 3, zi 0), (227, 1, .bool false), (228, 3, zi 0), (231, 1, .bool false), (232, 3, zi 0), (235, 1, .bool false), (236, 3, zi 0), (239, 1, .bool false), (240, 3, zi 0), (243, 1, .bool false), (244, 3, zi 0), (247, 1, .bool false), (248, 3, zi 0), (251, 1, .bool false), (252, 3, zi 0), (255, 1, .bool false), (256, 2, zi 0), (258, 1, zi 1)])),
    (80, .lst [zp 79 0]),
    (81, .lst [zp 79 0]),
    (82, .lst [zi 14, zi 2, zi 0, zi 0]),
    (83, .lst [zi 14, zi 2, zi 0, zi 0]),
    (84, .lst [zi 2, zi 1, zi 8, zi 1, zi 1, .bool false]),
    (85, .lst [zi 7]),
    (86, .lst [zp 16 0]),
    (87, .lst [zi 1]),
    (88, .dead),
    (89, .lst [zi 2, zi 0]),
    (90, .lst [zi 1, zi 0]),
    (91, .lst [zi 1, zi 0]),
    (92, .lst [zi 1, zi 1]),
    (93, .lst [zi 2, zi 1]),
    (94, .lst [zi 0, zi 0]),
    (95, .lst [zi 1, zi 2]),
    (96, .lst [zi 4, zi 2]),
    (97, .lst [zi 0, zi 0]),
    (98, .lst [zi 0, zi 0]),
    (99, .lst [zi 0, zi 0]),
    (100, .big 10 1 [] (zt [(0, 8, .int .u64 (.ofNat 0)), (8, 1, zi 1), (9, 1, zi 0)]))])
   (zap (per [] (fun m => [(1 * m + 101, .big 10 1 [] (zt [(0, 8, .int .u64 (.ofNat 0)), (8, 2, zi 0)]))]) 7)
   (zap ([(108, .lst [zi 0, zi 0, zi 0, zi 0, zi 0, .bool false, zi 0, zi 0]),
    (109, .lst [zi 0, zi 0, zi 0, zi 0, zi 0, .bool false, zi 0, zi 0]),
    (110, .lst [zi 7]),
    (111, .lst [zp 48 0]),
    (112, .lst [zi 1]),
    (113, .dead),
    (114, .lst [zi 2, zi 0]),
    (115, .lst [zi 1, zi 0]),
    (116, .lst [zi 9, zi 0]),
    (117, .lst [zi 1, zi 1]),
    (118, .lst [zi 10, zi 1]),
    (119, .lst [zi 0, zi 0]),
    (120, .lst [zi 1, zi 2]),
    (121, .lst [zi 12, zi 2]),
    (122, .lst [zi 0, zi 0]),
    (123, .lst [zi 0, zi 0]),
    (124, .lst [zi 0, zi 0]),
    (125, .big 10 1 [] (zt [(0, 8, .int .u64 (.ofNat 0)), (8, 2, zi 1)]))])
   (zap (per [] (fun m => [(1 * m + 126, .big 10 1 [] (zt [(0, 8, .int .u64 (.ofNat 0)), (8, 2, zi 0)]))]) 7)
   (zap ([(133, .lst [zi 0, zi 0, zi 0, zi 0, zi 0, .bool false, zi 0, zi 0]),
    (134, .lst [zi 0, zi 0, zi 0, zi 0, zi 0, .bool false, zi 0, zi 0]),
    (135, .lst [zp 10 0]),
    (136, .dead),
    (137, .lst [.map (.of 9)]),
    (138, .lst [.nils]),
    (139, .dead),
    (140, .iter (some (.of 9))),
    (141, .lst [zi 14, zi 2, zi 0, zi 0]),
    (142, .lst [zi 2, zi 1, zi 8, zi 1, zi 1, .bool false]),
    (143, .lst [zi 2, zi 1, zi 8, zi 1, zi 1, .bool false]),
    (144, .big 16 1 [zi 0] (zt [(1, 7, zi 1), (9, 7, zi 1)])),
    (145, .lst [.sl (.of 144) 0 16 16 none]),
    (146, .lst [.fn 21 [] [zp 145 0]]),
    (147, .lst [zp 16 0]),
    (148, .lst [zi 1]),
    (149, .dead),
    (150, .lst [zi 2, zi 0]),
    (151, .lst [zi 1, zi 0]),
    (152, .lst [zi 1, zi 0]),
    (153, .lst [zi 1, zi 1]),
    (154, .lst [zi 2, zi 1]),
    (155, .lst [zi 0, zi 0]),
    (156, .lst [zi 1, zi 2]),
    (157, .lst [zi 4, zi 2]),
    (158, .lst [zi 0, zi 0]),
    (159, .lst [zi 0, zi 0]),
    (160, .lst [zi 0, zi 0]),
    (161, .lst [zi 0, zi 0, zi 0, zi 0, zi 0, .bool false, zi 0, zi 0]),
    (162, .lst [zi 0, zi 0, zi 0, zi 0, zi 0, .bool false, zi 0, zi 0]),
    (163, .lst [zp 48 0]),
    (164, .lst [zi 1]),
    (165, .dead),
    (166, .lst [zi 2, zi 0]),
    (167, .lst [zi 1, zi 0]),
    (168, .lst [zi 9, zi 0]),
    (169, .lst [zi 1, zi 1]),
    (170, .lst [zi 10, zi 1]),
    (171, .lst [zi 0, zi 0]),
    (172, .lst [zi 1, zi 2]),
    (173, .lst [zi 12, zi 2]),
    (174, .lst [zi 0, zi 0]),
    (175, .lst [zi 0, zi 0]),
    (176, .lst [zi 0, zi 0]),
    (177, .lst [zi 0, zi 0, zi 0, zi 0, zi 0, .bool false, zi 0, zi 0]),
    (178, .lst [zi 0, zi 0, zi 0, zi 0, zi 0, .bool false, zi 0, zi 0]),
    (179, .lst [zp 10 0]),
    (180, .dead),
    (181, .lst [.map (.of 9)]),
    (182, .lst [.nils]),
    (183, .dead),
    (184, .iter (some (.of 9))),
    (185, .lst [zi 1, zi 0]),
    (186, .lst [zi 1, zi 0])])
   (zap (per [] (fun m => [(1 * m + 187, .lst [zi 0, zi 0])]) 14)
   (zap ([(201, .lst [zi 1, zi 1]),
    (202, .lst [zi 1, zi 1])])
   (zap (per [] (fun m => [(1 * m + 203, .lst [zi 0, zi 0])]) 14)
   (zap ([(217, .lst [zi 2, zi 1, zi 8, zi 1, zi 1, .bool false]),
    (218, .lst [zp 38 0]),
    (219, .lst [.bool true]),
    (220, .lst [zp 23 0]),
    (221, .dead),
    (222, .lst [.yield (.of 221)]),
    (223, .lst [zp 23 0]),
    (224, .dead),
    (225, .lst [zi 0, zi 0]),
    (226, .lst [zi 0, zi 0])])
   (zap (per [] (fun m => [(1 * m + 227, .lst [.bool false, .bool false, .bool false, .bool false, .bool false, .bool false, .bool false, zi 0])]) 9)
   (zap ([(236, .lst [zi 0, zi 1]),
    (237, .lst [zi 0, zi 1])])
   (zap (per [] (fun m => [(1 * m + 238, .lst [.bool false, .bool false, .bool false, .bool false, .bool false, .bool false, .bool false, zi 0])]) 9)
   (zap ([(247, .lst [zi 0, zi 2]),
    (248, .lst [zi 0, zi 2])])
   (zap (per [] (fun m => [(1 * m + 249, .lst [.bool false, .bool false, .bool false, .bool false, .bool false, .bool false, .bool false, zi 0])]) 9)
   (zap ([(258, .lst [zi 0, zi 3]),
    (259, .lst [zi 0, zi 3])])
   (zap (per [] (fun m => [(1 * m + 260, .lst [.bool false, .bool false, .bool false, .bool false, .bool false, .bool false, .bool false, zi 0])]) 9)
   (zap ([(269, .lst [zi 0, zi 4]),
    (270, .lst [zi 0, zi 4])])
   (zap (per [] (fun m => [(1 * m + 271, .lst [.bool false, .bool false, .bool false, .bool false, .bool false, .bool false, .bool false, zi 0])]) 9)
   (zap ([(280, .lst [zi 0, zi 5]),
    (281, .lst [zi 0, zi 5])])
   (zap (per [] (fun m => [(1 * m + 282, .lst [.bool false, .bool false, .bool false, .bool false, .bool false, .bool false, .bool false, zi 0])]) 9)
   (zap ([(291, .lst [zi 0, zi 6]),
    (292, .lst [zi 0, zi 6])])
   (zap (per [] (fun m => [(1 * m + 293, .lst [.bool false, .bool false, .bool false, .bool false, .bool false, .bool false, .bool false, zi 0])]) 9)
   (zap ([(302, .lst [zi 0, zi 7]),
    (303, .lst [zi 0, zi 7])])
   (zap (per [] (fun m => [(1 * m + 304, .lst [.bool false, .bool false, .bool false, .bool false, .bool false, .bool false, .bool false, zi 0])]) 9)
   (zap ([(313, .lst [zp 70 0]),
    (314, .lst [.bool true]),
    (315, .lst [zp 55 0]),
    (316, .dead),
    (317, .lst [.yield (.of 316)]),
    (318, .lst [zp 55 0]),
    (319, .dead),
    (320, .lst [zi 8, zi 0]),
    (321, .lst [zi 8, zi 0])])
   (zap (per [] (fun m => [(1 * m + 322, .lst [.bool false, .bool false, .bool false, .bool false, .bool false, .bool false, .bool false, zi 0])]) 9)
   (zap ([(331, .lst [zi 8, zi 1]),
    (332, .lst [zi 8, zi 1])])
   (zap (per [] (fun m => [(1 * m + 333, .lst [.bool false, .bool false, .bool false, .bool false, .bool false, .bool false, .bool false, zi 0])]) 9)
   (zap ([(342, .lst [zi 8, zi 2]),
    (343, .lst [zi 8, zi 2])])
   (zap (per [] (fun m => [(1 * m + 344, .lst [.bool false, .bool false, .bool false, .bool false, .bool false, .bool false, .bool false, zi 0])]) 9)
   (zap ([(353, .lst [zi 8, zi 3]),
    (354, .lst [zi 8, zi 3])])
   (zap (per [] (fun m => [(1 * m + 355, .lst [.bool false, .bool false, .bool false, .bool false, .bool false, .bool false, .bool false, zi 0])]) 9)
   (zap ([(364, .lst [zi 8, zi 4]),
    (365, .lst [zi 8, zi 4])])
   (zap (per [] (fun m => [(1 * m + 366, .lst [.bool false, .bool false, .bool false, .bool false, .bool false, .bool false, .bool false, zi 0])]) 9)
   (zap ([(375, .lst [zi 8, zi 5]),
    (376, .lst [zi 8, zi 5])])
   (zap (per [] (fun m => [(1 * m + 377, .lst [.bool false, .bool false, .bool false, .bool false, .bool false, .bool false, .bool false, zi 0])]) 9)
   (zap ([(386, .lst [zi 8, zi 6]),
    (387, .lst [zi 8, zi 6])])
   (zap (per [] (fun m => [(1 * m + 388, .lst [.bool false, .bool false, .bool false, .bool false, .bool false, .bool false, .bool false, zi 0])]) 9)
   (zap ([(397, .lst [zi 8, zi 7]),
    (398, .lst [zi 8, zi 7])])
   (zap (per [] (fun m => [(1 * m + 399, .lst [.bool false, .bool false, .bool false, .bool false, .bool false, .bool false, .bool false, zi 0])]) 9)
   (zap ([(408, .lst [zp 4 0]),
    (409, .lst [.fn 32 [] [zp 408 0]]),
    (410, .lst [.bool true]),
    (411, .lst [zi 2, zi 1, zi 8, zi 1, zi 1, .bool false]),
    (412, .lst [zp 23 0]),
    (413, .dead),
    (414, .lst [.yield (.of 413)]),
    (415, .lst [zp 23 0]),
    (416, .dead),
    (417, .lst [zi 0, zi 0]),
    (418, .lst [zi 0, zi 0])])
   (zap (per [] (fun m => [(1 * m + 419, .lst [.bool false, .bool false, .bool false, .bool false, .bool false, .bool false, .bool false, zi 0])]) 9)
   (zap ([(428, .lst [zi 0, zi 1]),
    (429, .lst [zi 0, zi 1])])
   (zap (per [] (fun m => [(1 * m + 430, .lst [.bool false, .bool false, .bool false, .bool false, .bool false, .bool false, .bool false, zi 0])]) 9)
   (zap ([(439, .lst [zi 0, zi 2]),
    (440, .lst [zi 0, zi 2])])
   (zap (per [] (fun m => [(1 * m + 441, .lst [.bool false, .bool false, .bool false, .bool false, .bool false, .bool false, .bool false, zi 0])]) 9)
   (zap ([(450, .lst [zi 0, zi 3]),
    (451, .lst [zi 0, zi 3])])
   (zap (per [] (fun m => [(1 * m + 452, .lst [.bool false, .bool false, .bool false, .bool false, .bool false, .bool false, .bool false, zi 0])]) 9)
   (zap ([(461, .lst [zi 0, zi 4]),
    (462, .lst [zi 0, zi 4])])
   (zap (per [] (fun m => [(1 * m + 463, .lst [.bool false, .bool false, .bool false, .bool false, .bool false, .bool false, .bool false, zi 0])]) 9)
   (zap ([(472, .lst [zi 0, zi 5]),
    (473, .lst [zi 0, zi 5])])
   (zap (per [] (fun m => [(1 * m + 474, .lst [.bool false, .bool false, .bool false, .bool false, .bool false, .bool false, .bool false, zi 0])]) 9)
   (zap ([(483, .lst [zi 0, zi 6]),
    (484, .lst [zi 0, zi 6])])
   (zap (per [] (fun m => [(1 * m + 485, .lst [.bool false, .bool false, .bool false, .bool false, .bool false, .bool false, .bool false, zi 0])]) 9)
   (zap ([(494, .lst [zi 0, zi 7]),
    (495, .lst [zi 0, zi 7])])
   (zap (per [] (fun m => [(1 * m + 496, .lst [.bool false, .bool false, .bool false, .bool false, .bool false, .bool false, .bool false, zi 0])]) 9)
   (zap ([(505, .lst [zp 55 0]),
    (506, .dead),
    (507, .lst [.yield (.of 506)]),
    (508, .lst [zp 55 0]),
    (509, .dead),
    (510, .lst [zi 8, zi 0]),
    (511, .lst [zi 8, zi 0])])
   (zap (per [] (fun m => [(1 * m + 512, .lst [.bool false, .bool false, .bool false, .bool false, .bool false, .bool false, .bool false, zi 0])]) 9)
   (zap ([(521, .lst [zi 8, zi 1]),
    (522, .lst [zi 8, zi 1])])
   (zap (per [] (fun m => [(1 * m + 523, .lst [.bool false, .bool false, .bool false, .bool false, .bool false, .bool false, .bool false, zi 0])]) 9)
   (zap ([(532, .lst [zi 8, zi 2]),
    (533, .lst [zi 8, zi 2])])
   (zap (per [] (fun m => [(1 * m + 534, .lst [.bool false, .bool false, .bool false, .bool false, .bool false, .bool false, .bool false, zi 0])]) 9)
   (zap ([(543, .lst [zi 8, zi 3]),
    (544, .lst [zi 8, zi 3])])
   (zap (per [] (fun m => [(1 * m + 545, .lst [.bool false, .bool false, .bool false, .bool false, .bool false, .bool false, .bool false, zi 0])]) 9)
   (zap ([(554, .lst [zi 8, zi 4]),
    (555, .lst [zi 8, zi 4])])
   (zap (per [] (fun m => [(1 * m + 556, .lst [.bool false, .bool false, .bool false, .bool false, .bool false, .bool false, .bool false, zi 0])]) 9)
   (zap ([(565, .lst [zi 8, zi 5]),
    (566, .lst [zi 8, zi 5])])
   (zap (per [] (fun m => [(1 * m + 567, .lst [.bool false, .bool false, .bool false, .bool false, .bool false, .bool false, .bool false, zi 0])]) 9)
   (zap ([(576, .lst [zi 8, zi 6]),
    (577, .lst [zi 8, zi 6])])
   (zap (per [] (fun m => [(1 * m + 578, .lst [.bool false, .bool false, .bool false, .bool false, .bool false, .bool false, .bool false, zi 0])]) 9)
   (zap ([(587, .lst [zi 8, zi 7]),
    (588, .lst [zi 8, zi 7])])
   (zap (per [] (fun m => [(1 * m + 589, .lst [.bool false, .bool false, .bool false, .bool false, .bool false, .bool false, .bool false, zi 0])]) 9)
   (zap ([(598, .lst [zi 2, zi 1, zi 8, zi 1, zi 1, .bool false]),
    (599, .lst [zp 79 0]),
    (600, .dead),
    (601, .lst [zp 4 0]),
    (602, .lst [.bool false]),
    (603, .lst [zi 0]),
    (604, .lst [zi 4096]),
    (605, .loop 0 (zt [(0, 1, zp 4 0), (1, 1, zp 601 0), (2, 1, zp 602 0), (5, 1, zp 4 0), (6, 1, .bool true), (7, 1, .bool false), (8, 1, .fn 58 [] [zp 603 0, zp 604 0])]) (rfP FT ⟨8, [1, 1, 0, 1, 0]⟩) (rfA FT ⟨8, [1, 1, 0, 1, 0]⟩) (rfB FT ⟨8, [1, 1, 0, 1, 0]⟩))])
   (zap (per [] (fun m => [(4 * m + 606, .lst [zi 0, .sl (.of (4 * m + 608)) 0 0 0 none]),
    (4 * m + 607, .lst [zi 0, .sl (.of (4 * m + 608)) 0 0 0 none]),
    (4 * m + 608, .big 0 1 [zi 0] (zt [])),
    (4 * m + 609, .lst [zi 0, .sl (.of (4 * m + 608)) 0 0 0 none])]) 3772)
   ([])))))))))))))))))))))))))))))))))))))))))))))))))))))))))))))))))))))))))))))))),
  [.loop ⟨58, [1, 0, 0]⟩ 96225,
  .blk 0,
  .rf ⟨8, [1, 1, 0, 1, 0]⟩ (zt [(0, 1, zp 4 0), (1, 1, zp 601 0), (2, 1, zp 602 0), (5, 1, zp 4 0), (6, 1, .bool true), (7, 1, .bool false), (8, 1, .fn 58 [] [zp 603 0, zp 604 0])]) (.of 605) 58,
  .blk 0,
  .seq ⟨8, [1, 1, 1]⟩ 99998,
  .call (some (.of 15)) ⟨9, [1, 0]⟩ 13 99999 (zt [(0, 1, zp 4 0), (2, 1, .bool false), (3, 1, zp 4 0), (4, 2, .bool true), (6, 1, zp 4 0), (7, 3, .bool true), (10, 1, zp 4 0), (11, 3, .bool true), (14, 1, zp 4 0)]) 8,
  .seq ⟨9, [1, 1]⟩ 99999,
  .call (some (.of 29)) ⟨10, [1, 1, 1, 1, 0]⟩ 10 100000 (zt [(0, 1, .bool false), (1, 1, zp 4 0), (2, 1, zi 0), (3, 1, zp 141 0), (4, 1, .tup [zp 4 0, zi 0]), (5, 1, .agg [zi 2, zi 1, zi 8, zi 1, zi 1, .bool false]), (6, 1, .tup [zp 4 0, zi 0]), (7, 1, zp 4 0), (8, 2, zi 0), (10, 2, .bool false), (12, 1, zp 4 0), (13, 2, .bool false), (15, 1, .tup [.agg [zi 14, zi 2, zi 0, zi 0], zi 0]), (16, 1, zp 4 0), (17, 1, .tup [.agg [zi 14, zi 2, zi 0, zi 0], zi 0]), (18, 1, .agg [zi 14, zi 2, zi 0, zi 0]), (19, 2, zi 0), (21, 2, .bool true), (23, 2, .agg [zi 14, zi 2, zi 0, zi 0]), (25, 3, .bool true), (28, 1, zp 4 0)]) 9,
  .seq ⟨10, [1, 1, 1, 1, 1]⟩ 100000,
  .base 10]⟩
end Go.Proofs.YtipifpppngfihaaGreat.auditNobody
