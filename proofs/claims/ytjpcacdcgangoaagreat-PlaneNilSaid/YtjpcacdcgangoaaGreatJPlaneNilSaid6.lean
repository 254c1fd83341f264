/- PlaneNilSaid: part 7 of 8 of the proof that it returns true for every input and leaves its arguments as they were; no condition. -/
import Derived.Test.YtjpcacdcgangoaaGreatJPlaneNilSaid5
import Derived.Test.YtjpcacdcgangoaaGreatProg
import Derived.KernelRfl
set_option linter.unusedSimpArgs false
set_option linter.unusedVariables false
namespace Go.Ab
open Go.Proofs
def btTab : List (Nat × List (Nat × List Nat)) := [
 (7, [(13, [0, 1, 3, 7, 0, 16, 48, 127, 0, 511]), (15, [0, 1, 3, 7, 0, 16, 63])]),
 (8, [(6, [0, 1, 3, 7, 0, 16, 48, 112, 255, 511, 511, 511, 4095, 8191, 16383])]),
 (9, [(1, [0, 1, 3, 7, 15, 31, 63, 127, 255, 511, 1023, 2047, 255, 4351, 16383, 32767, 65535]), (3, [0, 1, 3, 7, 0, 16, 63, 127, 255, 511, 0, 2047])]),
 (10, [(14, [0, 1, 3, 7, 0, 0, 0, 0, 224, 480, 1023])]),
 (11, [(5, [0, 1, 3, 7, 0, 16, 63, 127]), (8, [0, 1, 3, 7, 0, 16, 48, 112, 240, 511, 1023]), (9, [0, 1, 3, 7, 0, 16, 48, 112, 240, 496, 1023, 2047, 4095, 4095, 4095, 8191, 49151, 131071]), (10, [0, 1, 3, 7, 0, 16, 48, 112, 240, 496, 0, 2047]), (16, [0, 1, 3, 7, 0, 16, 63])]),
 (16, [(5, [0, 1, 0, 4, 12, 28, 60, 127]), (9, [0, 1, 0, 0, 8, 24, 56, 120, 0, 256, 768, 1792, 4088, 0, 8192, 24576, 57344, 131064, 262136, 524287]), (13, [0, 1, 0, 0, 8, 24, 56, 0, 128, 384, 896, 1920, 4088, 8184, 16383])]),
 (20, [(4, [0, 1, 3, 7, 0, 16, 48, 112, 240, 511, 1023]), (5, [0, 1, 3, 7, 0, 16, 63, 127]), (6, [0, 1, 3, 7, 15, 31, 63, 127, 7, 511, 1023]), (9, [0, 0, 0, 0, 8, 24, 56, 120, 255, 0, 1023]), (10, [0, 1, 3, 7, 0, 0, 32, 96, 224, 511, 1023]), (12, [0, 1, 3, 7, 0, 16, 0, 64, 0, 256, 1023]), (13, [0, 1, 3, 7, 0, 16, 0, 0, 176, 0, 1008, 0, 0, 6576, 16368, 32752, 65535]), (15, [0, 0, 0, 0, 8, 24, 56, 120, 248, 511, 0, 2047]), (16, [0, 1, 3, 7, 15, 0, 32, 127, 255, 511, 511, 0, 3071, 8191]), (17, [0, 1, 3, 7, 0, 0, 32, 96, 224, 0, 0, 1536, 4095, 8191]), (18, [0, 1, 3, 7, 0, 16, 0, 64, 0, 256, 1023]), (20, [0, 0, 0, 0, 8, 0, 0, 25, 153, 409, 921, 1979, 4027, 8123, 16315, 32767, 65535, 131071])]),
 (23, [(1, [0, 1, 0, 4, 12, 28, 63, 127]), (2, [0, 1, 3, 7, 0, 16, 48, 112, 0, 256, 1023, 2047, 4095, 4095, 8191, 32767])]),
 (26, [(1, [0, 1, 3, 7, 0, 31, 63, 127, 255, 511, 0, 1024, 3072, 7168, 0, 31744, 64512, 130048, 261120, 523264, 0, 1048576, 3145728, 7340032, 0, 32505856, 66060288, 133169152, 267386880, 535822336, 1073741823, 2147483647, 4294967295, 4294967295, 0, 25769803775, 68719476735])]),
 (28, [(3, [0, 1, 3, 7, 0, 16, 0, 127])]),
 (29, [(3, [0, 1, 3, 7, 0, 0, 0, 0, 128, 384, 896, 2047, 4095])]),
 (31, [(1, [0, 1, 3, 7, 15, 31, 63, 127, 255, 15, 527, 1551, 3599, 8191, 16383]), (3, [0, 1, 3, 7, 15, 31, 63, 127, 255, 511, 1023, 2047, 4095, 8191, 16383, 1023, 33791, 99327, 262143, 524287])]),
 (34, [(3, [0, 1, 3, 7, 0, 16, 63, 127, 255, 255, 0, 0, 3583, 8191]), (6, [0, 1, 3, 7, 0, 16, 0, 127])]),
 (38, [(2, [0, 1, 3, 7, 0, 16, 63, 127, 255, 255, 0, 1535, 4095]), (4, [0, 1, 3, 0, 8, 24, 56, 127]), (6, [0, 0, 0, 4, 12, 28, 0, 0, 128, 448, 1020, 2047, 4095])]),
 (40, [(3, [0, 1, 3, 7, 0, 16, 48, 112, 0, 256, 1023, 2047, 4095, 4095, 8191, 32767]), (7, [0, 1, 3, 7, 0, 16, 0, 127]), (11, [0, 1, 3, 7, 0, 31, 63, 127, 127, 0, 767, 2047]), (14, [0, 1, 3, 7, 0, 31, 63])]),
 (42, [(14, [0, 1, 3, 7, 0, 0, 48, 0, 128, 384, 896, 1920, 3968, 8064, 0, 32640, 112, 131071, 262143, 524287]), (16, [0, 1, 3, 7, 0, 16, 48, 112, 255, 511, 1023, 2047])]),
 (50, [(10, [0, 1, 3, 7, 0, 31, 63])]),
 (58, [(4, [0, 1, 3, 7, 15, 0, 32, 96, 224, 511, 1023, 2047, 4095, 8191])]),
 (59, [(3, [0, 1, 3, 7, 0, 16, 48, 112, 240, 0, 512, 1536, 3584, 8176, 16383, 32767, 65535])]),
 (61, [(10, [0, 0, 0, 4, 1, 19, 63])]),
 (64, [(8, [0, 0, 2, 1, 15])]),
 (68, [(6, [0, 0, 3, 7, 0, 0, 48, 112, 255])]),
 (70, [(11, [0, 1, 0, 4, 15, 0, 32, 0, 128, 480, 127, 1151, 4095, 8191])]),
 (72, [(3, [0, 1, 3, 7, 0, 16, 63, 127, 255, 255, 0, 0, 3583, 8191])]),
 (74, [(9, [0, 1, 3, 7, 0, 0, 0, 0, 0, 256, 992, 2016, 4095])]),
 (78, [(3, [0, 1, 3, 7, 15, 0, 0, 64, 192, 448, 991, 2047, 4095, 8191])]),
 (89, [(8, [0, 0, 2, 1, 15])]),
 (90, [(1, [0, 0, 3, 7, 7, 31, 63])]),
 (92, [(1, [0, 0, 3, 7, 7, 31, 63])]),
 (94, [(3, [0, 1, 3, 7, 0, 16, 0, 64, 240, 511, 1023]), (6, [0, 1, 3, 7, 0, 16, 48, 127, 255]), (7, [0, 1, 3, 7, 15, 31, 63, 127, 255, 7, 519, 2047, 4095])]),
 (95, [(4, [0, 0, 0, 4, 12, 28, 62, 127]), (7, [0, 0, 0, 1, 9, 31, 63]), (9, [0, 0, 2, 6, 14, 30, 0, 64, 192, 448, 960, 2047, 4095]), (16, [0, 1, 3, 7, 15, 31, 0, 127, 1, 257, 1023, 2047, 4095]), (17, [0, 1, 3, 7, 15, 31, 0, 127, 1, 257, 1023, 2047, 4095])]),
 (96, [(3, [0, 1, 0, 4, 12, 28, 63, 127]), (5, [0, 1, 3, 7, 0, 0, 32, 96, 224, 511, 1023, 1023, 4095, 8191])]),
 (97, [(3, [0, 1, 0, 4, 12, 28, 63, 127]), (5, [0, 1, 3, 7, 0, 31, 63])]),
 (103, [(4, [0, 0, 2, 7, 0, 0, 32, 112, 15, 511])]),
 (105, [(3, [0, 1, 3, 7, 15, 0, 32, 96, 224, 511, 1023, 2047, 2047, 4095, 16383])]),
 (107, [(4, [0, 1, 3, 7, 0, 31, 63, 127, 0, 511])]),
 (110, [(1, [0, 1, 3, 7, 0, 31, 63, 127, 0, 256, 768, 1792, 0, 7936, 16128, 32512, 65535, 131071])]),
 (116, [(15, [0, 1, 3, 7, 0, 16, 63]), (16, [0, 1, 3, 7, 0, 16, 63])]),
 (117, [(5, [0, 1, 0, 4, 12, 28, 0, 64, 252, 511, 1023]), (7, [0, 1, 3, 7, 15, 0, 32, 127, 255, 511, 1023, 2047]), (9, [0, 1, 3, 7, 0, 16, 48, 112, 240, 511]), (10, [0, 0, 2, 6, 0, 16, 48, 112, 240, 511]), (11, [0, 1, 3, 7, 0, 0, 32, 96, 224, 496, 0, 2047, 4095])]),
 (120, [(1, [0, 0, 3, 0, 0, 31, 63, 127])]),
 (129, [(1, [0, 1, 0, 4, 0, 31, 63, 127]), (10, [0, 1, 3, 7, 0, 31, 63, 127, 127, 255, 1023]), (13, [0, 1, 3, 7, 0, 0, 63])]),
 (130, [(14, [0, 0, 0, 6, 14, 30, 0, 0, 192, 448, 960, 2047, 0, 8191]), (19, [0, 0, 0, 6, 14, 30, 0, 0, 192, 448, 960, 2047, 4095])]),
 (132, [(13, [0, 1, 0, 4, 15, 0, 32, 0, 128, 511, 0, 1024, 0, 4096, 16383, 3199, 65535, 131071, 262143, 524287, 1048575])]),
 (145, [(3, [0, 1, 3, 7, 15, 31, 63, 0, 128, 384, 896, 1983, 0, 4096, 12288, 28672, 65535, 131071, 262143])]),
 (149, [(1, [0, 0, 2, 7, 0, 16, 63, 0, 128, 384, 896, 1920, 4095, 8191])]),
 (150, [(1, [0, 0, 2, 7, 0, 16, 63, 0, 128, 384, 896, 1920, 4095, 8191])]),
 (153, [(3, [0, 1, 0, 4, 0, 16, 0, 112, 255, 511, 1023])]),
 (155, [(3, [0, 1, 0, 4, 0, 16, 0, 112, 255, 511, 1023])]),
 (161, [(3, [0, 1, 3, 7, 0, 16, 63, 127]), (4, [0, 1, 3, 7, 0, 16, 63, 127, 255, 255, 0, 1535, 4095]), (11, [0, 1, 0, 4, 12, 28, 0, 64, 192, 448, 1020, 2047, 4095]), (15, [0, 1, 0, 4, 12, 28, 63, 127, 255, 511, 511, 0, 3071, 8191]), (16, [0, 1, 0, 4, 12, 28, 63, 127, 255, 255, 0, 1535, 4095]), (20, [0, 0, 0, 0, 8, 24, 56, 0, 128, 504, 125, 1149, 3197, 8191, 16383, 32767]), (21, [0, 1, 3, 7, 0, 16, 0, 127]), (22, [0, 1, 3, 7, 0, 16, 0, 127])]),
 (167, [(4, [0, 1, 3, 7, 0, 16, 63, 0, 255]), (5, [0, 1, 3, 7, 0, 16, 63]), (6, [0, 1, 3, 7, 0, 16, 63, 127, 255, 511, 0, 1024, 4095, 8191, 16383, 32767]), (7, [0, 0, 2, 1, 15, 31])]),
 (169, [(3, [0, 0, 0, 4, 0, 16, 48, 112, 240, 253, 765, 1789, 4095, 8191, 16383])]),
 (173, [(17, [0, 1, 3, 7, 7, 7, 39, 119, 247, 7, 7, 1543, 3591, 8191, 16383, 32767, 65535])]),
 (179, [(1, [0, 1, 3, 7, 0, 16, 63, 127, 255, 255, 0, 1535, 4095])]),
 (186, [(5, [0, 0, 2, 6, 14, 0, 0, 96, 254, 510, 1022, 2047, 4095])]),
 (187, [(1, [0, 1, 3, 7, 0, 31, 0, 64, 192, 448, 960, 2047, 4095])]),
 (189, [(17, [0, 1, 3, 7, 7, 7, 39, 119, 247, 7, 7, 1543, 3591, 8191, 16383, 32767, 65535])]),
 (199, [(3, [0, 1, 3, 7, 15, 0, 32, 96, 224, 480, 1023, 2047, 4095, 8191, 16383, 32767, 4095, 69631, 200703, 462847, 1048575, 2097151, 4194303])]),
 (206, [(14, [0, 0, 2, 1, 15, 31, 0, 127, 255, 511, 511, 1535, 1023, 8191, 16383, 32767, 65535]), (15, [0, 0, 2, 0, 8, 1, 63, 127, 255]), (22, [0, 1, 3, 7, 0, 31, 0, 127, 255, 511, 511, 1023, 4095]), (24, [0, 0, 0, 0, 1, 17, 49, 115, 255, 511])]),
 (212, [(1, [0, 1, 3, 7, 15, 31, 63, 127, 255, 511, 1023, 2047, 511, 4607, 12799, 32767, 65535, 131071])]),
 (215, [(1, [0, 1, 3, 0, 8, 24, 56, 127, 255])]),
 (220, [(1, [0, 1, 3, 0, 8, 24, 63, 127])]),
 (222, [(4, [0, 0, 0, 6, 14, 31])]),
 (227, [(11, [0, 0, 2, 6, 14, 0, 0, 0, 128, 384, 896, 2016, 4064, 8190, 16383, 32767, 65535])]),
 (229, [(17, [0, 1, 3, 7, 7, 23, 63, 127, 7, 7, 775, 1799, 4095, 8191, 16383])]),
 (232, [(3, [0, 1, 3, 7, 0, 16, 48, 112, 255, 511, 1023, 2047])]),
 (235, [(4, [0, 0, 3, 7, 15, 15, 15, 111, 239, 15, 15, 1039, 3599, 7695, 16383, 32767, 65535]), (6, [0, 0, 0, 0, 8, 0, 0, 64, 224, 480, 0, 0, 3072, 7168, 16355, 32739, 65535, 131071])]),
 (236, [(10, [0, 0, 0, 0, 0, 24, 0, 0, 0, 384, 960, 1984, 0, 0, 12288, 28672, 65475, 131011, 262143, 524287])]),
 (237, [(10, [0, 0, 0, 0, 0, 24, 0, 0, 0, 384, 960, 1984, 0, 0, 12288, 28672, 65475, 131011, 262143, 524287])]),
 (239, [(3, [0, 0, 0, 0, 0, 0, 48, 112, 0, 0, 768, 1792, 4083, 8179, 16383, 32767])]),
 (240, [(5, [0, 0, 3, 7, 15, 15, 15, 111, 239, 15, 15, 1039, 3599, 7695, 16383, 32767, 65535, 131071]), (11, [0, 0, 0, 0, 8, 0, 0, 64, 224, 480, 0, 0, 3072, 7168, 16355, 32739, 65535, 131071]), (16, [0, 0, 0, 6, 14, 0, 0, 64, 224, 480, 1023, 2047, 4095]), (17, [0, 0, 0, 0, 8, 0, 0, 64, 224, 480, 0, 0, 3072, 7168, 16355, 32739, 65535, 131071]), (22, [0, 0, 0, 6, 14, 0, 0, 64, 224, 480, 1023, 2047, 4095]), (23, [0, 0, 0, 0, 8, 0, 0, 64, 224, 480, 0, 0, 3072, 7168, 16355, 32739, 65535, 131071])]),
 (241, [(1, [0, 0, 0, 0, 0, 0, 48, 112, 0, 0, 768, 1792, 4083, 8179, 16383, 32767]), (3, [0, 0, 3, 7, 15, 15, 15, 111, 239, 15, 15, 1551, 3599, 8191, 16383, 32767, 65535]), (5, [0, 0, 3, 7, 15, 15, 15, 111, 239, 15, 15, 1551, 3599, 8191, 16383, 32767]), (8, [0, 0, 0, 0, 0, 0, 48, 112, 0, 0, 768, 1792, 4083, 8179, 16383, 32767])]),
 (242, [(1, [0, 0, 0, 0, 0, 0, 48, 112, 0, 0, 768, 1792, 4083, 8179, 16383, 32767]), (3, [0, 0, 3, 7, 15, 15, 15, 111, 239, 15, 15, 1551, 3599, 8191, 16383, 32767]), (5, [0, 0, 3, 7, 15, 15, 15, 111, 239, 15, 15, 1551, 3599, 8191, 16383, 32767, 65535]), (8, [0, 0, 0, 0, 0, 0, 48, 112, 0, 0, 768, 1792, 4083, 8179, 16383, 32767]), (10, [0, 0, 0, 0, 0, 0, 48, 112, 0, 0, 768, 1792, 4083, 8179, 16383, 32767]), (13, [0, 0, 3, 7, 15, 15, 15, 111, 239, 15, 15, 1551, 3599, 8191, 16383, 32767]), (15, [0, 0, 3, 7, 15, 15, 15, 111, 239, 15, 15, 1551, 3599, 8191, 16383, 32767, 65535]), (18, [0, 0, 0, 0, 0, 0, 48, 112, 0, 0, 768, 1792, 4083, 8179, 16383, 32767]), (21, [0, 0, 0, 0, 0, 0, 48, 112, 0, 0, 768, 1792, 4083, 8179, 16383, 32767])]),
 (247, [(1, [0, 0, 3, 0, 0, 31, 63, 127])]),
 (248, [(1, [0, 1, 3, 7, 0, 31, 63, 0, 128, 384, 896, 1920, 3968, 0, 8319, 32767]), (4, [0, 1, 3, 7, 15, 0, 32, 127])]),
 (249, [(4, [0, 0, 0, 6, 15, 31])]),
 (253, [(4, [0, 0, 3, 7, 15, 15, 15, 111, 239, 15, 15, 1039, 3599, 7695, 16383, 32767, 65535]), (6, [0, 0, 0, 0, 8, 0, 0, 64, 224, 480, 0, 0, 3072, 7168, 16355, 32739, 65535, 131071])]),
 (254, [(10, [0, 0, 0, 0, 0, 24, 0, 0, 0, 384, 960, 1984, 0, 0, 12288, 28672, 65475, 131011, 262143, 524287])]),
 (255, [(10, [0, 0, 0, 0, 0, 24, 0, 0, 0, 384, 960, 1984, 0, 0, 12288, 28672, 65475, 131011, 262143, 524287])]),
 (257, [(3, [0, 0, 0, 0, 0, 0, 48, 112, 0, 0, 768, 1792, 4083, 8179, 16383, 32767])]),
 (258, [(5, [0, 0, 3, 7, 15, 15, 15, 111, 239, 15, 15, 1039, 3599, 7695, 16383, 32767, 65535, 131071]), (11, [0, 0, 0, 0, 8, 0, 0, 64, 224, 480, 0, 0, 3072, 7168, 16355, 32739, 65535, 131071]), (16, [0, 0, 0, 6, 14, 0, 0, 64, 224, 480, 1023, 2047, 4095]), (17, [0, 0, 0, 0, 8, 0, 0, 64, 224, 480, 0, 0, 3072, 7168, 16355, 32739, 65535, 131071]), (22, [0, 0, 0, 6, 14, 0, 0, 64, 224, 480, 1023, 2047, 4095]), (23, [0, 0, 0, 0, 8, 0, 0, 64, 224, 480, 0, 0, 3072, 7168, 16355, 32739, 65535, 131071])]),
 (259, [(1, [0, 0, 0, 0, 0, 0, 48, 112, 0, 0, 768, 1792, 4083, 8179, 16383, 32767]), (3, [0, 0, 3, 7, 15, 15, 15, 111, 239, 15, 15, 1551, 3599, 8191, 16383, 32767, 65535]), (5, [0, 0, 3, 7, 15, 15, 15, 111, 239, 15, 15, 1551, 3599, 8191, 16383, 32767]), (8, [0, 0, 0, 0, 0, 0, 48, 112, 0, 0, 768, 1792, 4083, 8179, 16383, 32767])]),
 (260, [(1, [0, 0, 0, 0, 0, 0, 48, 112, 0, 0, 768, 1792, 4083, 8179, 16383, 32767]), (3, [0, 0, 3, 7, 15, 15, 15, 111, 239, 15, 15, 1551, 3599, 8191, 16383, 32767]), (5, [0, 0, 3, 7, 15, 15, 15, 111, 239, 15, 15, 1551, 3599, 8191, 16383, 32767, 65535]), (8, [0, 0, 0, 0, 0, 0, 48, 112, 0, 0, 768, 1792, 4083, 8179, 16383, 32767]), (10, [0, 0, 0, 0, 0, 0, 48, 112, 0, 0, 768, 1792, 4083, 8179, 16383, 32767]), (13, [0, 0, 3, 7, 15, 15, 15, 111, 239, 15, 15, 1551, 3599, 8191, 16383, 32767]), (15, [0, 0, 3, 7, 15, 15, 15, 111, 239, 15, 15, 1551, 3599, 8191, 16383, 32767, 65535]), (18, [0, 0, 0, 0, 0, 0, 48, 112, 0, 0, 768, 1792, 4083, 8179, 16383, 32767]), (21, [0, 0, 0, 0, 0, 0, 48, 112, 0, 0, 768, 1792, 4083, 8179, 16383, 32767])]),
 (265, [(6, [0, 0, 3, 7, 0, 0, 48, 112, 255])]),
 (273, [(2, [0, 0, 2, 1, 15, 31, 63, 127, 255, 255, 767, 511, 4095, 8191, 255, 255, 16639, 114943, 246015, 508159, 1048575, 2097151, 4194303])]),
 (276, [(2, [0, 0, 0, 6, 3, 31])]),
 (281, [(5, [0, 1, 3, 0, 8, 24, 63, 0, 128, 511, 0, 1024, 3072, 8191, 0, 0, 65535, 131071]), (8, [0, 0, 3, 0, 8, 24, 63, 127])]),
 (283, [(2, [0, 1, 0, 4, 0, 16, 60, 127, 255, 511, 1023, 0, 2303, 8191, 16383])]),
 (285, [(2, [0, 0, 3, 0, 0, 0, 48, 127, 255])]),
 (287, [(2, [0, 1, 3, 0, 8, 24, 0, 120, 255, 0, 512, 2047, 0, 4096, 12288, 0, 61440, 131071, 0, 0, 1048575, 2097151]), (3, [0, 0, 3, 0, 8, 24, 0, 71, 255]), (7, [0, 0, 3, 0, 8, 24, 7, 127]), (10, [0, 1, 3, 0, 15, 0, 32, 96, 0, 480, 1023, 0, 4095])]),
 (288, [(0, [0, 1, 3, 7, 15, 0, 32, 96, 224, 0, 992, 2016, 4064, 0, 16383])]),
 (289, [(2, [0, 1, 3, 7, 0, 31, 63, 0, 128, 384, 896, 0, 3968, 8064, 16383, 32767])]),
 (290, [(4, [0, 0, 3, 7, 15, 15, 63, 127, 15, 15, 527, 1807, 3855, 8191, 16383]), (6, [0, 0, 0, 0, 8, 0, 0, 64, 224, 480, 0, 0, 3072, 7168, 16355, 32739, 65535, 131071])]),
 (291, [(10, [0, 0, 0, 0, 0, 24, 0, 0, 0, 384, 960, 1984, 0, 0, 12288, 28672, 65475, 131011, 262143, 524287])]),
 (292, [(10, [0, 0, 0, 0, 0, 24, 0, 0, 0, 384, 960, 1984, 0, 0, 12288, 28672, 65475, 131011, 262143, 524287])]),
 (294, [(3, [0, 0, 0, 0, 0, 0, 48, 112, 0, 0, 768, 1792, 4083, 8179, 16383, 32767])]),
 (295, [(5, [0, 0, 3, 7, 15, 15, 63, 127, 15, 15, 527, 1807, 3855, 8191, 16383, 32767]), (11, [0, 0, 0, 0, 8, 0, 0, 64, 224, 480, 0, 0, 3072, 7168, 16355, 32739, 65535, 131071]), (16, [0, 0, 3, 7, 0, 0, 32, 112, 240, 511, 1023]), (17, [0, 0, 0, 0, 8, 0, 0, 64, 224, 480, 0, 0, 3072, 7168, 16355, 32739, 65535, 131071]), (22, [0, 0, 3, 7, 0, 0, 32, 112, 240, 511, 1023]), (23, [0, 0, 0, 0, 8, 0, 0, 64, 224, 480, 0, 0, 3072, 7168, 16355, 32739, 65535, 131071])]),
 (297, [(1, [0, 0, 0, 0, 0, 0, 48, 112, 0, 0, 768, 1792, 4083, 8179, 16383, 32767]), (3, [0, 0, 3, 7, 15, 15, 63, 127, 15, 15, 783, 1807, 4095, 8191, 16383]), (5, [0, 0, 3, 7, 15, 15, 63, 127, 15, 15, 783, 1807, 4095, 8191]), (8, [0, 0, 0, 0, 0, 0, 48, 112, 0, 0, 768, 1792, 4083, 8179, 16383, 32767])]),
 (298, [(1, [0, 0, 0, 0, 0, 0, 48, 112, 0, 0, 768, 1792, 4083, 8179, 16383, 32767]), (3, [0, 0, 3, 7, 15, 15, 63, 127, 15, 15, 783, 1807, 4095, 8191]), (5, [0, 0, 3, 7, 15, 15, 63, 127, 15, 15, 783, 1807, 4095, 8191, 16383]), (8, [0, 0, 0, 0, 0, 0, 48, 112, 0, 0, 768, 1792, 4083, 8179, 16383, 32767]), (10, [0, 0, 0, 0, 0, 0, 48, 112, 0, 0, 768, 1792, 4083, 8179, 16383, 32767]), (13, [0, 0, 3, 7, 15, 15, 63, 127, 15, 15, 783, 1807, 4095, 8191]), (15, [0, 0, 3, 7, 15, 15, 63, 127, 15, 15, 783, 1807, 4095, 8191, 16383]), (18, [0, 0, 0, 0, 0, 0, 48, 112, 0, 0, 768, 1792, 4083, 8179, 16383, 32767]), (21, [0, 0, 0, 0, 0, 0, 48, 112, 0, 0, 768, 1792, 4083, 8179, 16383, 32767])]),
 (301, [(3, [0, 1, 0, 7, 15, 31, 31, 31, 31, 415, 991, 2015, 31, 31, 31, 24607, 57375, 127007, 258079, 524287, 1048575, 2097151]), (5, [0, 0, 0, 0, 12, 30, 62, 0, 0, 0, 768, 1920, 3968, 8191, 16383, 32767]), (6, [0, 0, 0, 6, 0, 0, 0, 96, 0, 0, 0, 1536, 3840, 7936, 0, 0, 0, 98304, 245760, 507904, 1048335, 2096911, 4194303, 8388607])]),
 (303, [(1, [0, 1, 3, 0, 8, 24, 56, 127, 255, 511]), (2, [0, 1, 3, 0, 8, 24, 56, 127, 255, 511]), (3, [0, 1, 3, 0, 8, 24, 56, 127, 255, 511])]),
 (310, [(3, [0, 1, 0, 7, 15, 31, 31, 31, 31, 415, 991, 2015, 31, 31, 31, 24607, 57375, 127007, 258079, 524287, 1048575, 2097151]), (5, [0, 0, 0, 0, 12, 30, 62, 0, 0, 0, 768, 1920, 3968, 8191, 16383, 32767]), (6, [0, 0, 0, 6, 0, 0, 0, 96, 0, 0, 0, 1536, 3840, 7936, 0, 0, 0, 98304, 245760, 507904, 1048335, 2096911, 4194303, 8388607])]),
 (322, [(0, [0, 1, 3, 0, 8, 31])]),
 (325, [(1, [0, 1, 0, 4, 15, 0, 63, 127, 127, 511, 0, 1024, 4095, 8191, 8191, 32767, 65535, 131071, 131071, 524287, 0, 2097151]), (3, [0, 0, 2, 0, 8, 30, 0, 64, 0, 448, 1022, 0, 0, 4096, 0, 16384, 61440, 129024, 262142, 524286, 524286, 2097150, 4194303, 8388607, 8388607, 33554431, 67108863])]),
 (330, [(8, [0, 0, 2, 1, 15])]),
 (338, [(3, [0, 1, 0, 7, 15, 31, 31, 31, 223, 511, 1023, 31, 31, 31, 12319, 28703, 63519, 129055, 262143, 524287]), (5, [0, 0, 0, 6, 15, 31, 0, 0, 0, 384, 960, 1984, 4095, 8191]), (6, [0, 0, 0, 6, 0, 0, 0, 96, 0, 0, 0, 1536, 3840, 7936, 0, 0, 0, 98304, 245760, 507904, 1048335, 2096911, 4194303, 8388607])]),
 (341, [(1, [0, 0, 0, 6, 14, 0, 0, 96, 224, 511, 1023])]),
 (342, [(17, [0, 1, 3, 7, 7, 7, 39, 119, 247, 7, 7, 1543, 3591, 8191, 16383, 32767, 65535])]),
 (343, [(0, [0, 0, 0, 0, 0, 0, 48, 112, 0, 0, 768, 1792, 4083, 8179, 16383, 32767])]),
 (344, [(4, [0, 0, 2, 6, 14, 30, 63, 127, 255, 511, 1023, 2047, 255, 8191, 16383, 255, 33023, 98559, 229631, 255, 1016063, 2064639, 4194303, 8388607, 16777215])]),
 (345, [(1, [0, 0, 0, 6, 14, 0, 0, 96, 224, 511, 1023])]),
 (356, [(6, [0, 0, 3, 0, 0, 24, 7, 127])]),
 (359, [(1, [0, 0, 3, 7, 0, 0, 48, 112, 255])]),
 (360, [(4, [0, 0, 3, 7, 15, 15, 15, 111, 239, 15, 15, 1039, 3599, 7695, 16383, 32767, 65535]), (6, [0, 0, 0, 0, 8, 0, 0, 64, 224, 480, 0, 0, 3072, 7168, 16355, 32739, 65535, 131071])]),
 (361, [(10, [0, 0, 0, 0, 0, 24, 0, 0, 0, 384, 960, 1984, 0, 0, 12288, 28672, 65475, 131011, 262143, 524287])]),
 (362, [(10, [0, 0, 0, 0, 0, 24, 0, 0, 0, 384, 960, 1984, 0, 0, 12288, 28672, 65475, 131011, 262143, 524287])]),
 (364, [(3, [0, 0, 0, 0, 0, 0, 48, 112, 0, 0, 768, 1792, 4083, 8179, 16383, 32767])]),
 (365, [(5, [0, 0, 3, 7, 15, 15, 15, 111, 239, 15, 15, 1039, 3599, 7695, 16383, 32767, 65535, 131071]), (11, [0, 0, 0, 0, 8, 0, 0, 64, 224, 480, 0, 0, 3072, 7168, 16355, 32739, 65535, 131071]), (16, [0, 0, 0, 6, 14, 0, 0, 64, 224, 480, 1023, 2047, 4095]), (17, [0, 0, 0, 0, 8, 0, 0, 64, 224, 480, 0, 0, 3072, 7168, 16355, 32739, 65535, 131071]), (22, [0, 0, 0, 6, 14, 0, 0, 64, 224, 480, 1023, 2047, 4095]), (23, [0, 0, 0, 0, 8, 0, 0, 64, 224, 480, 0, 0, 3072, 7168, 16355, 32739, 65535, 131071])]),
 (366, [(1, [0, 0, 0, 0, 0, 0, 48, 112, 0, 0, 768, 1792, 4083, 8179, 16383, 32767]), (3, [0, 0, 3, 7, 15, 15, 15, 111, 239, 15, 15, 1551, 3599, 8191, 16383, 32767, 65535]), (5, [0, 0, 3, 7, 15, 15, 15, 111, 239, 15, 15, 1551, 3599, 8191, 16383, 32767]), (8, [0, 0, 0, 0, 0, 0, 48, 112, 0, 0, 768, 1792, 4083, 8179, 16383, 32767])]),
 (367, [(1, [0, 0, 0, 0, 0, 0, 48, 112, 0, 0, 768, 1792, 4083, 8179, 16383, 32767]), (3, [0, 0, 3, 7, 15, 15, 15, 111, 239, 15, 15, 1551, 3599, 8191, 16383, 32767]), (5, [0, 0, 3, 7, 15, 15, 15, 111, 239, 15, 15, 1551, 3599, 8191, 16383, 32767, 65535]), (8, [0, 0, 0, 0, 0, 0, 48, 112, 0, 0, 768, 1792, 4083, 8179, 16383, 32767]), (10, [0, 0, 0, 0, 0, 0, 48, 112, 0, 0, 768, 1792, 4083, 8179, 16383, 32767]), (13, [0, 0, 3, 7, 15, 15, 15, 111, 239, 15, 15, 1551, 3599, 8191, 16383, 32767]), (15, [0, 0, 3, 7, 15, 15, 15, 111, 239, 15, 15, 1551, 3599, 8191, 16383, 32767, 65535]), (18, [0, 0, 0, 0, 0, 0, 48, 112, 0, 0, 768, 1792, 4083, 8179, 16383, 32767]), (21, [0, 0, 0, 0, 0, 0, 48, 112, 0, 0, 768, 1792, 4083, 8179, 16383, 32767])]),
 (379, [(3, [0, 1, 0, 7, 15, 31, 31, 31, 31, 415, 991, 2015, 31, 31, 31, 24607, 57375, 127007, 258079, 524287, 1048575, 2097151]), (5, [0, 0, 0, 0, 12, 30, 62, 0, 0, 0, 768, 1920, 3968, 8191, 16383, 32767]), (6, [0, 0, 0, 6, 0, 0, 0, 96, 0, 0, 0, 1536, 3840, 7936, 0, 0, 0, 98304, 245760, 507904, 1048335, 2096911, 4194303, 8388607])]),
 (389, [(8, [0, 0, 2, 1, 15])]),
 (390, [(1, [0, 0, 0, 6, 14, 0, 0, 96, 224, 511, 1023])])]
def lookN {α : Type} (d : α) : List (Nat × α) → Nat → α
 | [], _ => d
 | (k, v) :: r, n => match Nat.beq k n with
  | true => v
  | false => lookN d r n
def btAll (f : FuncId) (r : Nat) : List Nat :=
 match Nat.beq r 1000000 with
 | true => [f]
 | false => lookN [] (lookN [] btTab f) r
inductive BT (α : Type) where
 | leaf
 | node (l : BT α) (o : Option α) (r : BT α)
def BT.get {α : Type} : BT α → List Bool → Option α
 | .leaf, _ => none
 | .node _ o _, [] => o
 | .node l _ r, b :: bs => match b with | true => r.get bs | false => l.get bs
structure TyRow where
 num : TypeId
 info : TypeInfo
 at' : Tryz.prog.info? num = some info
noncomputable def ty0 : TyRow := ⟨0, Tryz.t0, by kernel_rfl⟩
noncomputable def ty1 : TyRow := ⟨1, Tryz.t1, by kernel_rfl⟩
noncomputable def ty2 : TyRow := ⟨2, Tryz.t2, by kernel_rfl⟩
noncomputable def ty3 : TyRow := ⟨3, Tryz.t3, by kernel_rfl⟩
noncomputable def ty4 : TyRow := ⟨4, Tryz.t4, by kernel_rfl⟩
noncomputable def ty5 : TyRow := ⟨5, Tryz.t5, by kernel_rfl⟩
noncomputable def ty6 : TyRow := ⟨6, Tryz.t6, by kernel_rfl⟩
noncomputable def ty7 : TyRow := ⟨7, Tryz.t7, by kernel_rfl⟩
noncomputable def ty8 : TyRow := ⟨8, Tryz.t8, by kernel_rfl⟩
noncomputable def ty9 : TyRow := ⟨9, Tryz.t9, by kernel_rfl⟩
noncomputable def ty10 : TyRow := ⟨10, Tryz.t10, by kernel_rfl⟩
noncomputable def ty11 : TyRow := ⟨11, Tryz.t11, by kernel_rfl⟩
noncomputable def ty12 : TyRow := ⟨12, Tryz.t12, by kernel_rfl⟩
noncomputable def ty13 : TyRow := ⟨13, Tryz.t13, by kernel_rfl⟩
noncomputable def ty14 : TyRow := ⟨14, Tryz.t14, by kernel_rfl⟩
noncomputable def ty15 : TyRow := ⟨15, Tryz.t15, by kernel_rfl⟩
noncomputable def ty16 : TyRow := ⟨16, Tryz.t16, by kernel_rfl⟩
noncomputable def ty17 : TyRow := ⟨17, Tryz.t17, by kernel_rfl⟩
noncomputable def ty18 : TyRow := ⟨18, Tryz.t18, by kernel_rfl⟩
noncomputable def ty19 : TyRow := ⟨19, Tryz.t19, by kernel_rfl⟩
noncomputable def ty20 : TyRow := ⟨20, Tryz.t20, by kernel_rfl⟩
noncomputable def ty21 : TyRow := ⟨21, Tryz.t21, by kernel_rfl⟩
noncomputable def ty22 : TyRow := ⟨22, Tryz.t22, by kernel_rfl⟩
noncomputable def ty23 : TyRow := ⟨23, Tryz.t23, by kernel_rfl⟩
noncomputable def ty24 : TyRow := ⟨24, Tryz.t24, by kernel_rfl⟩
noncomputable def ty25 : TyRow := ⟨25, Tryz.t25, by kernel_rfl⟩
noncomputable def ty26 : TyRow := ⟨26, Tryz.t26, by kernel_rfl⟩
noncomputable def ty27 : TyRow := ⟨27, Tryz.t27, by kernel_rfl⟩
noncomputable def ty28 : TyRow := ⟨28, Tryz.t28, by kernel_rfl⟩
noncomputable def ty29 : TyRow := ⟨29, Tryz.t29, by kernel_rfl⟩
noncomputable def ty30 : TyRow := ⟨30, Tryz.t30, by kernel_rfl⟩
noncomputable def ty31 : TyRow := ⟨31, Tryz.t31, by kernel_rfl⟩
noncomputable def ty32 : TyRow := ⟨32, Tryz.t32, by kernel_rfl⟩
noncomputable def ty33 : TyRow := ⟨33, Tryz.t33, by kernel_rfl⟩
noncomputable def ty34 : TyRow := ⟨34, Tryz.t34, by kernel_rfl⟩
noncomputable def ty35 : TyRow := ⟨35, Tryz.t35, by kernel_rfl⟩
noncomputable def ty36 : TyRow := ⟨36, Tryz.t36, by kernel_rfl⟩
noncomputable def ty37 : TyRow := ⟨37, Tryz.t37, by kernel_rfl⟩
noncomputable def ty39 : TyRow := ⟨39, Tryz.t39, by kernel_rfl⟩
noncomputable def ty40 : TyRow := ⟨40, Tryz.t40, by kernel_rfl⟩
noncomputable def ty41 : TyRow := ⟨41, Tryz.t41, by kernel_rfl⟩
noncomputable def ty42 : TyRow := ⟨42, Tryz.t42, by kernel_rfl⟩
noncomputable def ty43 : TyRow := ⟨43, Tryz.t43, by kernel_rfl⟩
noncomputable def ty44 : TyRow := ⟨44, Tryz.t44, by kernel_rfl⟩
noncomputable def ty45 : TyRow := ⟨45, Tryz.t45, by kernel_rfl⟩
noncomputable def ty46 : TyRow := ⟨46, Tryz.t46, by kernel_rfl⟩
noncomputable def ty47 : TyRow := ⟨47, Tryz.t47, by kernel_rfl⟩
noncomputable def ty48 : TyRow := ⟨48, Tryz.t48, by kernel_rfl⟩
noncomputable def ty50 : TyRow := ⟨50, Tryz.t50, by kernel_rfl⟩
noncomputable def ty51 : TyRow := ⟨51, Tryz.t51, by kernel_rfl⟩
noncomputable def ty53 : TyRow := ⟨53, Tryz.t53, by kernel_rfl⟩
noncomputable def ty54 : TyRow := ⟨54, Tryz.t54, by kernel_rfl⟩
noncomputable def ty56 : TyRow := ⟨56, Tryz.t56, by kernel_rfl⟩
noncomputable def ty58 : TyRow := ⟨58, Tryz.t58, by kernel_rfl⟩
noncomputable def ty59 : TyRow := ⟨59, Tryz.t59, by kernel_rfl⟩
noncomputable def ty60 : TyRow := ⟨60, Tryz.t60, by kernel_rfl⟩
noncomputable def ty61 : TyRow := ⟨61, Tryz.t61, by kernel_rfl⟩
noncomputable def ty62 : TyRow := ⟨62, Tryz.t62, by kernel_rfl⟩
noncomputable def ty64 : TyRow := ⟨64, Tryz.t64, by kernel_rfl⟩
noncomputable def ty67 : TyRow := ⟨67, Tryz.t67, by kernel_rfl⟩
noncomputable def ty70 : TyRow := ⟨70, Tryz.t70, by kernel_rfl⟩
noncomputable def ty72 : TyRow := ⟨72, Tryz.t72, by kernel_rfl⟩
noncomputable def ty78 : TyRow := ⟨78, Tryz.t78, by kernel_rfl⟩
noncomputable def ty79 : TyRow := ⟨79, Tryz.t79, by kernel_rfl⟩
noncomputable def ty80 : TyRow := ⟨80, Tryz.t80, by kernel_rfl⟩
noncomputable def ty81 : TyRow := ⟨81, Tryz.t81, by kernel_rfl⟩
noncomputable def ty82 : TyRow := ⟨82, Tryz.t82, by kernel_rfl⟩
noncomputable def ty83 : TyRow := ⟨83, Tryz.t83, by kernel_rfl⟩
noncomputable def ty84 : TyRow := ⟨84, Tryz.t84, by kernel_rfl⟩
noncomputable def ty85 : TyRow := ⟨85, Tryz.t85, by kernel_rfl⟩
noncomputable def ty86 : TyRow := ⟨86, Tryz.t86, by kernel_rfl⟩
noncomputable def ty87 : TyRow := ⟨87, Tryz.t87, by kernel_rfl⟩
noncomputable def ty90 : TyRow := ⟨90, Tryz.t90, by kernel_rfl⟩
noncomputable def ty91 : TyRow := ⟨91, Tryz.t91, by kernel_rfl⟩
noncomputable def ty92 : TyRow := ⟨92, Tryz.t92, by kernel_rfl⟩
noncomputable def ty99 : TyRow := ⟨99, Tryz.t99, by kernel_rfl⟩
noncomputable def ty100 : TyRow := ⟨100, Tryz.t100, by kernel_rfl⟩
noncomputable def ty101 : TyRow := ⟨101, Tryz.t101, by kernel_rfl⟩
noncomputable def ty102 : TyRow := ⟨102, Tryz.t102, by kernel_rfl⟩
noncomputable def ty103 : TyRow := ⟨103, Tryz.t103, by kernel_rfl⟩
noncomputable def ty104 : TyRow := ⟨104, Tryz.t104, by kernel_rfl⟩
noncomputable def ty109 : TyRow := ⟨109, Tryz.t109, by kernel_rfl⟩
noncomputable def ty111 : TyRow := ⟨111, Tryz.t111, by kernel_rfl⟩
noncomputable def ty114 : TyRow := ⟨114, Tryz.t114, by kernel_rfl⟩
noncomputable def ty116 : TyRow := ⟨116, Tryz.t116, by kernel_rfl⟩
noncomputable def ty117 : TyRow := ⟨117, Tryz.t117, by kernel_rfl⟩
noncomputable def ty118 : TyRow := ⟨118, Tryz.t118, by kernel_rfl⟩
noncomputable def ty120 : TyRow := ⟨120, Tryz.t120, by kernel_rfl⟩
noncomputable def ty121 : TyRow := ⟨121, Tryz.t121, by kernel_rfl⟩
noncomputable def ty123 : TyRow := ⟨123, Tryz.t123, by kernel_rfl⟩
noncomputable def ty124 : TyRow := ⟨124, Tryz.t124, by kernel_rfl⟩
noncomputable def ty125 : TyRow := ⟨125, Tryz.t125, by kernel_rfl⟩
noncomputable def ty126 : TyRow := ⟨126, Tryz.t126, by kernel_rfl⟩
noncomputable def ty127 : TyRow := ⟨127, Tryz.t127, by kernel_rfl⟩
noncomputable def ty128 : TyRow := ⟨128, Tryz.t128, by kernel_rfl⟩
noncomputable def ty130 : TyRow := ⟨130, Tryz.t130, by kernel_rfl⟩
noncomputable def ty132 : TyRow := ⟨132, Tryz.t132, by kernel_rfl⟩
noncomputable def ty133 : TyRow := ⟨133, Tryz.t133, by kernel_rfl⟩
noncomputable def ty134 : TyRow := ⟨134, Tryz.t134, by kernel_rfl⟩
noncomputable def ty135 : TyRow := ⟨135, Tryz.t135, by kernel_rfl⟩
noncomputable def ty136 : TyRow := ⟨136, Tryz.t136, by kernel_rfl⟩
noncomputable def ty137 : TyRow := ⟨137, Tryz.t137, by kernel_rfl⟩
noncomputable def ty138 : TyRow := ⟨138, Tryz.t138, by kernel_rfl⟩
noncomputable def ty140 : TyRow := ⟨140, Tryz.t140, by kernel_rfl⟩
noncomputable def ty142 : TyRow := ⟨142, Tryz.t142, by kernel_rfl⟩
noncomputable def ty144 : TyRow := ⟨144, Tryz.t144, by kernel_rfl⟩
noncomputable def ty146 : TyRow := ⟨146, Tryz.t146, by kernel_rfl⟩
noncomputable def ty147 : TyRow := ⟨147, Tryz.t147, by kernel_rfl⟩
noncomputable def ty152 : TyRow := ⟨152, Tryz.t152, by kernel_rfl⟩
noncomputable def ty157 : TyRow := ⟨157, Tryz.t157, by kernel_rfl⟩
noncomputable def ty158 : TyRow := ⟨158, Tryz.t158, by kernel_rfl⟩
noncomputable def ty159 : TyRow := ⟨159, Tryz.t159, by kernel_rfl⟩
noncomputable def ty160 : TyRow := ⟨160, Tryz.t160, by kernel_rfl⟩
noncomputable def ty161 : TyRow := ⟨161, Tryz.t161, by kernel_rfl⟩
noncomputable def ty162 : TyRow := ⟨162, Tryz.t162, by kernel_rfl⟩
noncomputable def ty163 : TyRow := ⟨163, Tryz.t163, by kernel_rfl⟩
noncomputable def ty164 : TyRow := ⟨164, Tryz.t164, by kernel_rfl⟩
noncomputable def ty165 : TyRow := ⟨165, Tryz.t165, by kernel_rfl⟩
noncomputable def ty166 : TyRow := ⟨166, Tryz.t166, by kernel_rfl⟩
noncomputable def ty167 : TyRow := ⟨167, Tryz.t167, by kernel_rfl⟩
noncomputable def ty169 : TyRow := ⟨169, Tryz.t169, by kernel_rfl⟩
noncomputable def ty172 : TyRow := ⟨172, Tryz.t172, by kernel_rfl⟩
noncomputable def ty173 : TyRow := ⟨173, Tryz.t173, by kernel_rfl⟩
noncomputable def ty176 : TyRow := ⟨176, Tryz.t176, by kernel_rfl⟩
noncomputable def ty179 : TyRow := ⟨179, Tryz.t179, by kernel_rfl⟩
noncomputable def ty182 : TyRow := ⟨182, Tryz.t182, by kernel_rfl⟩
noncomputable def ty184 : TyRow := ⟨184, Tryz.t184, by kernel_rfl⟩
noncomputable def ty185 : TyRow := ⟨185, Tryz.t185, by kernel_rfl⟩
noncomputable def ty186 : TyRow := ⟨186, Tryz.t186, by kernel_rfl⟩
noncomputable def ty187 : TyRow := ⟨187, Tryz.t187, by kernel_rfl⟩
noncomputable def ty188 : TyRow := ⟨188, Tryz.t188, by kernel_rfl⟩
noncomputable def ty189 : TyRow := ⟨189, Tryz.t189, by kernel_rfl⟩
noncomputable def ty190 : TyRow := ⟨190, Tryz.t190, by kernel_rfl⟩
noncomputable def ty191 : TyRow := ⟨191, Tryz.t191, by kernel_rfl⟩
noncomputable def ty192 : TyRow := ⟨192, Tryz.t192, by kernel_rfl⟩
noncomputable def ty193 : TyRow := ⟨193, Tryz.t193, by kernel_rfl⟩
noncomputable def ty197 : TyRow := ⟨197, Tryz.t197, by kernel_rfl⟩
noncomputable def ty199 : TyRow := ⟨199, Tryz.t199, by kernel_rfl⟩
noncomputable def ty200 : TyRow := ⟨200, Tryz.t200, by kernel_rfl⟩
noncomputable def ty201 : TyRow := ⟨201, Tryz.t201, by kernel_rfl⟩
noncomputable def ty202 : TyRow := ⟨202, Tryz.t202, by kernel_rfl⟩
noncomputable def ty203 : TyRow := ⟨203, Tryz.t203, by kernel_rfl⟩
noncomputable def ty204 : TyRow := ⟨204, Tryz.t204, by kernel_rfl⟩
noncomputable def ty205 : TyRow := ⟨205, Tryz.t205, by kernel_rfl⟩
noncomputable def ty207 : TyRow := ⟨207, Tryz.t207, by kernel_rfl⟩
noncomputable def ty209 : TyRow := ⟨209, Tryz.t209, by kernel_rfl⟩
noncomputable def ty210 : TyRow := ⟨210, Tryz.t210, by kernel_rfl⟩
noncomputable def ty214 : TyRow := ⟨214, Tryz.t214, by kernel_rfl⟩
noncomputable def ty215 : TyRow := ⟨215, Tryz.t215, by kernel_rfl⟩
noncomputable def ty216 : TyRow := ⟨216, Tryz.t216, by kernel_rfl⟩
noncomputable def ty217 : TyRow := ⟨217, Tryz.t217, by kernel_rfl⟩
noncomputable def ty220 : TyRow := ⟨220, Tryz.t220, by kernel_rfl⟩
noncomputable def ty223 : TyRow := ⟨223, Tryz.t223, by kernel_rfl⟩
noncomputable def ty225 : TyRow := ⟨225, Tryz.t225, by kernel_rfl⟩
noncomputable def ty228 : TyRow := ⟨228, Tryz.t228, by kernel_rfl⟩
noncomputable def ty231 : TyRow := ⟨231, Tryz.t231, by kernel_rfl⟩
noncomputable def ty232 : TyRow := ⟨232, Tryz.t232, by kernel_rfl⟩
noncomputable def ty233 : TyRow := ⟨233, Tryz.t233, by kernel_rfl⟩
noncomputable def ty234 : TyRow := ⟨234, Tryz.t234, by kernel_rfl⟩
noncomputable def ty236 : TyRow := ⟨236, Tryz.t236, by kernel_rfl⟩
noncomputable def ty238 : TyRow := ⟨238, Tryz.t238, by kernel_rfl⟩
noncomputable def ty239 : TyRow := ⟨239, Tryz.t239, by kernel_rfl⟩
noncomputable def ty240 : TyRow := ⟨240, Tryz.t240, by kernel_rfl⟩
noncomputable def ty241 : TyRow := ⟨241, Tryz.t241, by kernel_rfl⟩
noncomputable def ty242 : TyRow := ⟨242, Tryz.t242, by kernel_rfl⟩
noncomputable def ty243 : TyRow := ⟨243, Tryz.t243, by kernel_rfl⟩
noncomputable def ty244 : TyRow := ⟨244, Tryz.t244, by kernel_rfl⟩
noncomputable def ty245 : TyRow := ⟨245, Tryz.t245, by kernel_rfl⟩
noncomputable def ty246 : TyRow := ⟨246, Tryz.t246, by kernel_rfl⟩
noncomputable def ty247 : TyRow := ⟨247, Tryz.t247, by kernel_rfl⟩
noncomputable def ty248 : TyRow := ⟨248, Tryz.t248, by kernel_rfl⟩
noncomputable def ty249 : TyRow := ⟨249, Tryz.t249, by kernel_rfl⟩
noncomputable def ty250 : TyRow := ⟨250, Tryz.t250, by kernel_rfl⟩
noncomputable def ty251 : TyRow := ⟨251, Tryz.t251, by kernel_rfl⟩
noncomputable def ty252 : TyRow := ⟨252, Tryz.t252, by kernel_rfl⟩
noncomputable def ty253 : TyRow := ⟨253, Tryz.t253, by kernel_rfl⟩
noncomputable def ty254 : TyRow := ⟨254, Tryz.t254, by kernel_rfl⟩
noncomputable def ty255 : TyRow := ⟨255, Tryz.t255, by kernel_rfl⟩
noncomputable def ty256 : TyRow := ⟨256, Tryz.t256, by kernel_rfl⟩
noncomputable def ty257 : TyRow := ⟨257, Tryz.t257, by kernel_rfl⟩
noncomputable def ty258 : TyRow := ⟨258, Tryz.t258, by kernel_rfl⟩
noncomputable def ty259 : TyRow := ⟨259, Tryz.t259, by kernel_rfl⟩
noncomputable def ty261 : TyRow := ⟨261, Tryz.t261, by kernel_rfl⟩
noncomputable def ty263 : TyRow := ⟨263, Tryz.t263, by kernel_rfl⟩
noncomputable def ty265 : TyRow := ⟨265, Tryz.t265, by kernel_rfl⟩
noncomputable def ty269 : TyRow := ⟨269, Tryz.t269, by kernel_rfl⟩
noncomputable def ty271 : TyRow := ⟨271, Tryz.t271, by kernel_rfl⟩
noncomputable def ty277 : TyRow := ⟨277, Tryz.t277, by kernel_rfl⟩
noncomputable def ty278 : TyRow := ⟨278, Tryz.t278, by kernel_rfl⟩
noncomputable def ty279 : TyRow := ⟨279, Tryz.t279, by kernel_rfl⟩
noncomputable def ty280 : TyRow := ⟨280, Tryz.t280, by kernel_rfl⟩
noncomputable def ty281 : TyRow := ⟨281, Tryz.t281, by kernel_rfl⟩
noncomputable def ty282 : TyRow := ⟨282, Tryz.t282, by kernel_rfl⟩
noncomputable def ty283 : TyRow := ⟨283, Tryz.t283, by kernel_rfl⟩
noncomputable def ty284 : TyRow := ⟨284, Tryz.t284, by kernel_rfl⟩
noncomputable def ty286 : TyRow := ⟨286, Tryz.t286, by kernel_rfl⟩
noncomputable def ty288 : TyRow := ⟨288, Tryz.t288, by kernel_rfl⟩
noncomputable def ty290 : TyRow := ⟨290, Tryz.t290, by kernel_rfl⟩
noncomputable def ty294 : TyRow := ⟨294, Tryz.t294, by kernel_rfl⟩
noncomputable def ty299 : TyRow := ⟨299, Tryz.t299, by kernel_rfl⟩
noncomputable def ty302 : TyRow := ⟨302, Tryz.t302, by kernel_rfl⟩
noncomputable def ty303 : TyRow := ⟨303, Tryz.t303, by kernel_rfl⟩
noncomputable def ty304 : TyRow := ⟨304, Tryz.t304, by kernel_rfl⟩
noncomputable def ty305 : TyRow := ⟨305, Tryz.t305, by kernel_rfl⟩
noncomputable def ty306 : TyRow := ⟨306, Tryz.t306, by kernel_rfl⟩
noncomputable def ty308 : TyRow := ⟨308, Tryz.t308, by kernel_rfl⟩
noncomputable def ty309 : TyRow := ⟨309, Tryz.t309, by kernel_rfl⟩
noncomputable def ty310 : TyRow := ⟨310, Tryz.t310, by kernel_rfl⟩
noncomputable def ty311 : TyRow := ⟨311, Tryz.t311, by kernel_rfl⟩
noncomputable def ty316 : TyRow := ⟨316, Tryz.t316, by kernel_rfl⟩
noncomputable def ty317 : TyRow := ⟨317, Tryz.t317, by kernel_rfl⟩
noncomputable def ty322 : TyRow := ⟨322, Tryz.t322, by kernel_rfl⟩
noncomputable def ty324 : TyRow := ⟨324, Tryz.t324, by kernel_rfl⟩
noncomputable def ty327 : TyRow := ⟨327, Tryz.t327, by kernel_rfl⟩
noncomputable def ty330 : TyRow := ⟨330, Tryz.t330, by kernel_rfl⟩
noncomputable def ty331 : TyRow := ⟨331, Tryz.t331, by kernel_rfl⟩
noncomputable def ty332 : TyRow := ⟨332, Tryz.t332, by kernel_rfl⟩
noncomputable def ty333 : TyRow := ⟨333, Tryz.t333, by kernel_rfl⟩
noncomputable def ty334 : TyRow := ⟨334, Tryz.t334, by kernel_rfl⟩
noncomputable def ty336 : TyRow := ⟨336, Tryz.t336, by kernel_rfl⟩
noncomputable def ty337 : TyRow := ⟨337, Tryz.t337, by kernel_rfl⟩
noncomputable def ty338 : TyRow := ⟨338, Tryz.t338, by kernel_rfl⟩
noncomputable def ty340 : TyRow := ⟨340, Tryz.t340, by kernel_rfl⟩
noncomputable def ty343 : TyRow := ⟨343, Tryz.t343, by kernel_rfl⟩
noncomputable def ty344 : TyRow := ⟨344, Tryz.t344, by kernel_rfl⟩
noncomputable def ty346 : TyRow := ⟨346, Tryz.t346, by kernel_rfl⟩
noncomputable def ty353 : TyRow := ⟨353, Tryz.t353, by kernel_rfl⟩
noncomputable def ty354 : TyRow := ⟨354, Tryz.t354, by kernel_rfl⟩
noncomputable def ty355 : TyRow := ⟨355, Tryz.t355, by kernel_rfl⟩
noncomputable def ty359 : TyRow := ⟨359, Tryz.t359, by kernel_rfl⟩
noncomputable def ty360 : TyRow := ⟨360, Tryz.t360, by kernel_rfl⟩
noncomputable def ty361 : TyRow := ⟨361, Tryz.t361, by kernel_rfl⟩
noncomputable def ty362 : TyRow := ⟨362, Tryz.t362, by kernel_rfl⟩
noncomputable def ty363 : TyRow := ⟨363, Tryz.t363, by kernel_rfl⟩
noncomputable def ty364 : TyRow := ⟨364, Tryz.t364, by kernel_rfl⟩
noncomputable def ty365 : TyRow := ⟨365, Tryz.t365, by kernel_rfl⟩
noncomputable def ty366 : TyRow := ⟨366, Tryz.t366, by kernel_rfl⟩
noncomputable def ty367 : TyRow := ⟨367, Tryz.t367, by kernel_rfl⟩
noncomputable def ty369 : TyRow := ⟨369, Tryz.t369, by kernel_rfl⟩
noncomputable def ty370 : TyRow := ⟨370, Tryz.t370, by kernel_rfl⟩
noncomputable def ty371 : TyRow := ⟨371, Tryz.t371, by kernel_rfl⟩
noncomputable def ty372 : TyRow := ⟨372, Tryz.t372, by kernel_rfl⟩
noncomputable def ty373 : TyRow := ⟨373, Tryz.t373, by kernel_rfl⟩
noncomputable def ty376 : TyRow := ⟨376, Tryz.t376, by kernel_rfl⟩
noncomputable def ty377 : TyRow := ⟨377, Tryz.t377, by kernel_rfl⟩
noncomputable def ty379 : TyRow := ⟨379, Tryz.t379, by kernel_rfl⟩
noncomputable def ty381 : TyRow := ⟨381, Tryz.t381, by kernel_rfl⟩
noncomputable def ty383 : TyRow := ⟨383, Tryz.t383, by kernel_rfl⟩
noncomputable def ty384 : TyRow := ⟨384, Tryz.t384, by kernel_rfl⟩
noncomputable def ty385 : TyRow := ⟨385, Tryz.t385, by kernel_rfl⟩
noncomputable def ty386 : TyRow := ⟨386, Tryz.t386, by kernel_rfl⟩
noncomputable def ty387 : TyRow := ⟨387, Tryz.t387, by kernel_rfl⟩
noncomputable def ty393 : TyRow := ⟨393, Tryz.t393, by kernel_rfl⟩
noncomputable def ty400 : TyRow := ⟨400, Tryz.t400, by kernel_rfl⟩
noncomputable def ty403 : TyRow := ⟨403, Tryz.t403, by kernel_rfl⟩
noncomputable def ty404 : TyRow := ⟨404, Tryz.t404, by kernel_rfl⟩
noncomputable def ty411 : TyRow := ⟨411, Tryz.t411, by kernel_rfl⟩
noncomputable def ty414 : TyRow := ⟨414, Tryz.t414, by kernel_rfl⟩
noncomputable def ty418 : TyRow := ⟨418, Tryz.t418, by kernel_rfl⟩
noncomputable def ty426 : TyRow := ⟨426, Tryz.t426, by kernel_rfl⟩
noncomputable def ty428 : TyRow := ⟨428, Tryz.t428, by kernel_rfl⟩
noncomputable def ty431 : TyRow := ⟨431, Tryz.t431, by kernel_rfl⟩
noncomputable def ty432 : TyRow := ⟨432, Tryz.t432, by kernel_rfl⟩
noncomputable def ty437 : TyRow := ⟨437, Tryz.t437, by kernel_rfl⟩
noncomputable def ty440 : TyRow := ⟨440, Tryz.t440, by kernel_rfl⟩
noncomputable def ty443 : TyRow := ⟨443, Tryz.t443, by kernel_rfl⟩
noncomputable def ty445 : TyRow := ⟨445, Tryz.t445, by kernel_rfl⟩
noncomputable def ty454 : TyRow := ⟨454, Tryz.t454, by kernel_rfl⟩
noncomputable def ty458 : TyRow := ⟨458, Tryz.t458, by kernel_rfl⟩
noncomputable def ty465 : TyRow := ⟨465, Tryz.t465, by kernel_rfl⟩
noncomputable def ty467 : TyRow := ⟨467, Tryz.t467, by kernel_rfl⟩
noncomputable def ty470 : TyRow := ⟨470, Tryz.t470, by kernel_rfl⟩
noncomputable def ty473 : TyRow := ⟨473, Tryz.t473, by kernel_rfl⟩
noncomputable def ty474 : TyRow := ⟨474, Tryz.t474, by kernel_rfl⟩
noncomputable def ty477 : TyRow := ⟨477, Tryz.t477, by kernel_rfl⟩
noncomputable def ty478 : TyRow := ⟨478, Tryz.t478, by kernel_rfl⟩
noncomputable def ty481 : TyRow := ⟨481, Tryz.t481, by kernel_rfl⟩
noncomputable def ty486 : TyRow := ⟨486, Tryz.t486, by kernel_rfl⟩
noncomputable def ty487 : TyRow := ⟨487, Tryz.t487, by kernel_rfl⟩
noncomputable def ty492 : TyRow := ⟨492, Tryz.t492, by kernel_rfl⟩
noncomputable def ty508 : TyRow := ⟨508, Tryz.t508, by kernel_rfl⟩
noncomputable def ty510 : TyRow := ⟨510, Tryz.t510, by kernel_rfl⟩
noncomputable def ty512 : TyRow := ⟨512, Tryz.t512, by kernel_rfl⟩
noncomputable def ty515 : TyRow := ⟨515, Tryz.t515, by kernel_rfl⟩
noncomputable def ty516 : TyRow := ⟨516, Tryz.t516, by kernel_rfl⟩
noncomputable def ty538 : TyRow := ⟨538, Tryz.t538, by kernel_rfl⟩
noncomputable def ty539 : TyRow := ⟨539, Tryz.t539, by kernel_rfl⟩
noncomputable def ty540 : TyRow := ⟨540, Tryz.t540, by kernel_rfl⟩
noncomputable def ty541 : TyRow := ⟨541, Tryz.t541, by kernel_rfl⟩
noncomputable def ty542 : TyRow := ⟨542, Tryz.t542, by kernel_rfl⟩
noncomputable def ty545 : TyRow := ⟨545, Tryz.t545, by kernel_rfl⟩
noncomputable def ty546 : TyRow := ⟨546, Tryz.t546, by kernel_rfl⟩
noncomputable def ty547 : TyRow := ⟨547, Tryz.t547, by kernel_rfl⟩
noncomputable def ty548 : TyRow := ⟨548, Tryz.t548, by kernel_rfl⟩
noncomputable def ty552 : TyRow := ⟨552, Tryz.t552, by kernel_rfl⟩
noncomputable def ty553 : TyRow := ⟨553, Tryz.t553, by kernel_rfl⟩
noncomputable def tyTree : BT TyRow := (.node (.node (.node (.node (.node (.node (.node (.node (.node (.node .leaf none (.node .leaf (some ty512) .leaf)) none (.node .leaf (some ty256) .leaf)) none (.node .leaf (some ty128) (.node .leaf (some ty384) .leaf))) none (.node .leaf (some ty64) (.node .leaf (some ty192) .leaf))) none (.node (.node (.node .leaf none (.node .leaf (some ty288) .leaf)) none (.node .leaf (some ty160) .leaf)) (some ty32) .leaf)) none (.node (.node (.node .leaf none (.node .leaf (some ty144) (.node .leaf (some ty400) .leaf))) none (.node (.node .leaf none (.node .leaf (some ty336) .leaf)) (some ty80) .leaf)) (some ty16) (.node (.node (.node .leaf none (.node .leaf (some ty304) .leaf)) none (.node .leaf (some ty176) (.node .leaf (some ty432) .leaf))) (some ty48) (.node .leaf none (.node .leaf (some ty240) .leaf))))) none (.node (.node (.node (.node .leaf none (.node .leaf (some ty136) .leaf)) none (.node .leaf (some ty72) (.node .leaf (some ty200) .leaf))) none (.node (.node (.node (.node .leaf none (.node .leaf (some ty552) .leaf)) none .leaf) none .leaf) (some ty40) (.node (.node .leaf none (.node .leaf (some ty360) .leaf)) (some ty104) (.node .leaf (some ty232) .leaf)))) (some ty8) (.node (.node (.node (.node .leaf none (.node .leaf (some ty280) .leaf)) none (.node .leaf (some ty152) .leaf)) none (.node (.node .leaf none (.node .leaf (some ty344) .leaf)) none (.node .leaf (some ty216) .leaf))) (some ty24) (.node (.node .leaf none (.node .leaf (some ty184) (.node .leaf (some ty440) .leaf))) (some ty56) (.node (.node .leaf none (.node .leaf (some ty376) .leaf)) (some ty120) (.node .leaf (some ty248) .leaf)))))) none (.node (.node (.node (.node (.node (.node (.node .leaf none (.node .leaf (some ty516) .leaf)) none .leaf) none (.node .leaf (some ty132) .leaf)) none (.node (.node .leaf none (.node .leaf (some ty324) .leaf)) none .leaf)) none (.node (.node (.node (.node .leaf none (.node .leaf (some ty548) .leaf)) none .leaf) none (.node .leaf (some ty164) .leaf)) (some ty36) (.node .leaf (some ty100) (.node .leaf (some ty228) .leaf)))) none (.node (.node (.node .leaf none (.node .leaf none (.node .leaf (some ty404) .leaf))) none (.node (.node .leaf none (.node .leaf (some ty340) .leaf)) (some ty84) .leaf)) (some ty20) (.node (.node (.node .leaf none (.node .leaf (some ty308) .leaf)) none .leaf) none (.node (.node .leaf none (.node .leaf (some ty372) .leaf)) (some ty116) (.node .leaf (some ty244) .leaf))))) (some ty4) (.node (.node (.node (.node .leaf none (.node .leaf (some ty140) .leaf)) none (.node (.node .leaf none (.node .leaf (some ty332) .leaf)) none (.node .leaf (some ty204) .leaf))) none (.node (.node .leaf none (.node .leaf (some ty172) (.node .leaf (some ty428) .leaf))) (some ty44) (.node (.node .leaf none (.node .leaf (some ty364) .leaf)) none (.node .leaf (some ty236) (.node .leaf (some ty492) .leaf))))) (some ty12) (.node (.node (.node (.node (.node .leaf none (.node .leaf (some ty540) .leaf)) none (.node .leaf (some ty284) .leaf)) none .leaf) none (.node .leaf (some ty92) (.node .leaf (some ty220) .leaf))) (some ty28) (.node (.node (.node .leaf none (.node .leaf (some ty316) .leaf)) none (.node .leaf (some ty188) .leaf)) (some ty60) (.node .leaf (some ty124) (.node .leaf (some ty252) (.node .leaf (some ty508) .leaf)))))))) none (.node (.node (.node (.node (.node (.node (.node .leaf none (.node .leaf (some ty258) .leaf)) none (.node .leaf (some ty130) (.node .leaf (some ty386) .leaf))) none (.node (.node .leaf none (.node .leaf (some ty322) .leaf)) none .leaf)) none (.node (.node (.node (.node .leaf none (.node .leaf (some ty546) .leaf)) none (.node .leaf (some ty290) .leaf)) none (.node .leaf (some ty162) (.node .leaf (some ty418) .leaf))) (some ty34) (.node (.node .leaf none (.node .leaf (some ty354) .leaf)) none .leaf))) none (.node (.node (.node .leaf none (.node .leaf (some ty146) .leaf)) none (.node (.node .leaf none (.node .leaf (some ty338) .leaf)) (some ty82) (.node .leaf (some ty210) .leaf))) (some ty18) (.node (.node (.node .leaf none (.node .leaf (some ty306) .leaf)) none .leaf) (some ty50) (.node (.node .leaf none (.node .leaf (some ty370) .leaf)) (some ty114) (.node .leaf (some ty242) .leaf))))) none (.node (.node (.node (.node .leaf none (.node .leaf (some ty138) .leaf)) none (.node (.node .leaf none (.node .leaf (some ty330) .leaf)) none (.node .leaf (some ty202) (.node .leaf (some ty458) .leaf)))) none (.node (.node .leaf none (.node .leaf none (.node .leaf (some ty426) .leaf))) (some ty42) (.node (.node .leaf none (.node .leaf (some ty362) .leaf)) none (.node .leaf (some ty234) .leaf)))) (some ty10) (.node (.node (.node (.node (.node .leaf none (.node .leaf (some ty538) .leaf)) none (.node .leaf (some ty282) .leaf)) none .leaf) none (.node (.node .leaf none (.node .leaf (some ty346) .leaf)) (some ty90) (.node .leaf none (.node .leaf (some ty474) .leaf)))) (some ty26) (.node (.node .leaf none (.node .leaf (some ty186) .leaf)) (some ty58) (.node .leaf none (.node .leaf (some ty250) .leaf)))))) (some ty2) (.node (.node (.node (.node (.node .leaf none (.node .leaf (some ty134) .leaf)) none (.node .leaf (some ty70) (.node .leaf none (.node .leaf (some ty454) .leaf)))) none (.node (.node (.node .leaf none (.node .leaf (some ty294) .leaf)) none (.node .leaf (some ty166) .leaf)) none (.node .leaf (some ty102) (.node .leaf none (.node .leaf (some ty486) .leaf))))) none (.node (.node (.node (.node .leaf none (.node .leaf (some ty278) .leaf)) none .leaf) none (.node .leaf (some ty86) (.node .leaf (some ty214) (.node .leaf (some ty470) .leaf)))) (some ty22) (.node (.node (.node .leaf none (.node .leaf (some ty310) .leaf)) none (.node .leaf (some ty182) .leaf)) (some ty54) (.node .leaf (some ty118) (.node .leaf (some ty246) .leaf))))) (some ty6) (.node (.node (.node (.node .leaf none (.node .leaf (some ty142) .leaf)) none (.node (.node .leaf none (.node .leaf (some ty334) .leaf)) (some ty78) .leaf)) none (.node (.node (.node .leaf none (.node .leaf (some ty302) .leaf)) none .leaf) (some ty46) (.node (.node .leaf none (.node .leaf (some ty366) .leaf)) none (.node .leaf (some ty238) .leaf)))) (some ty14) (.node (.node (.node (.node (.node .leaf none (.node .leaf (some ty542) .leaf)) none (.node .leaf (some ty286) .leaf)) none (.node .leaf (some ty158) (.node .leaf (some ty414) .leaf))) none (.node .leaf none (.node .leaf none (.node .leaf (some ty478) .leaf)))) (some ty30) (.node (.node .leaf none (.node .leaf (some ty190) .leaf)) (some ty62) (.node .leaf (some ty126) (.node .leaf (some ty254) (.node .leaf (some ty510) .leaf))))))))) (some ty0) (.node (.node (.node (.node (.node (.node (.node (.node .leaf none (.node .leaf (some ty257) .leaf)) none (.node .leaf none (.node .leaf (some ty385) .leaf))) none (.node .leaf none (.node .leaf (some ty193) .leaf))) none (.node (.node (.node (.node .leaf none (.node .leaf (some ty545) .leaf)) none .leaf) none (.node .leaf (some ty161) .leaf)) (some ty33) (.node (.node .leaf none (.node .leaf (some ty353) .leaf)) none (.node .leaf (some ty225) (.node .leaf (some ty481) .leaf))))) none (.node (.node .leaf none (.node (.node .leaf none (.node .leaf (some ty337) .leaf)) (some ty81) (.node .leaf (some ty209) (.node .leaf (some ty465) .leaf)))) (some ty17) (.node (.node (.node .leaf none (.node .leaf (some ty305) .leaf)) none .leaf) none (.node (.node .leaf none (.node .leaf (some ty369) .leaf)) none (.node .leaf (some ty241) .leaf))))) none (.node (.node (.node (.node (.node .leaf none (.node .leaf (some ty265) .leaf)) none (.node .leaf (some ty137) (.node .leaf (some ty393) .leaf))) none (.node .leaf none (.node .leaf (some ty201) .leaf))) none (.node (.node (.node (.node .leaf none (.node .leaf (some ty553) .leaf)) none .leaf) none (.node .leaf (some ty169) .leaf)) (some ty41) (.node (.node .leaf none (.node .leaf (some ty361) .leaf)) none (.node .leaf (some ty233) .leaf)))) (some ty9) (.node (.node (.node (.node .leaf none (.node .leaf (some ty281) .leaf)) none .leaf) none (.node .leaf none (.node .leaf (some ty217) (.node .leaf (some ty473) .leaf)))) (some ty25) (.node (.node .leaf none (.node .leaf (some ty185) .leaf)) none (.node (.node .leaf none (.node .leaf (some ty377) .leaf)) (some ty121) (.node .leaf (some ty249) .leaf)))))) none (.node (.node (.node (.node (.node (.node .leaf none (.node .leaf (some ty261) .leaf)) none (.node .leaf (some ty133) .leaf)) none (.node .leaf none (.node .leaf (some ty197) .leaf))) none (.node (.node .leaf none (.node .leaf (some ty165) .leaf)) (some ty37) (.node .leaf (some ty101) .leaf))) none (.node (.node (.node (.node .leaf none (.node .leaf (some ty277) .leaf)) none .leaf) none (.node .leaf (some ty85) .leaf)) (some ty21) (.node (.node (.node .leaf none (.node .leaf (some ty309) .leaf)) none (.node .leaf none (.node .leaf (some ty437) .leaf))) (some ty53) (.node (.node .leaf none (.node .leaf (some ty373) .leaf)) (some ty117) (.node .leaf (some ty245) .leaf))))) (some ty5) (.node (.node (.node (.node (.node .leaf none (.node .leaf (some ty269) .leaf)) none .leaf) none (.node (.node .leaf none (.node .leaf (some ty333) .leaf)) none (.node .leaf (some ty205) .leaf))) none (.node (.node .leaf none (.node .leaf (some ty173) .leaf)) (some ty45) (.node (.node .leaf none (.node .leaf (some ty365) .leaf)) (some ty109) .leaf))) (some ty13) (.node (.node (.node (.node (.node .leaf none (.node .leaf (some ty541) .leaf)) none .leaf) none (.node .leaf (some ty157) .leaf)) none (.node .leaf none (.node .leaf none (.node .leaf (some ty477) .leaf)))) (some ty29) (.node (.node (.node .leaf none (.node .leaf (some ty317) .leaf)) none (.node .leaf (some ty189) (.node .leaf (some ty445) .leaf))) (some ty61) (.node (.node .leaf none (.node .leaf (some ty381) .leaf)) (some ty125) (.node .leaf (some ty253) .leaf))))))) (some ty1) (.node (.node (.node (.node (.node (.node (.node (.node .leaf none (.node .leaf (some ty515) .leaf)) none (.node .leaf (some ty259) .leaf)) none (.node .leaf none (.node .leaf (some ty387) .leaf))) none (.node .leaf (some ty67) .leaf)) none (.node (.node (.node (.node .leaf none (.node .leaf (some ty547) .leaf)) none .leaf) none (.node .leaf (some ty163) .leaf)) (some ty35) (.node (.node .leaf none (.node .leaf (some ty355) .leaf)) (some ty99) .leaf))) none (.node (.node (.node .leaf none (.node .leaf (some ty147) (.node .leaf (some ty403) .leaf))) none (.node .leaf (some ty83) (.node .leaf none (.node .leaf (some ty467) .leaf)))) (some ty19) (.node (.node .leaf none (.node .leaf (some ty179) .leaf)) (some ty51) (.node (.node .leaf none (.node .leaf (some ty371) .leaf)) none (.node .leaf (some ty243) .leaf))))) none (.node (.node (.node .leaf none (.node (.node .leaf none (.node .leaf (some ty331) .leaf)) none (.node .leaf (some ty203) .leaf))) none (.node (.node (.node .leaf none (.node .leaf (some ty299) .leaf)) none .leaf) (some ty43) (.node (.node .leaf none (.node .leaf (some ty363) .leaf)) none .leaf))) (some ty11) (.node (.node (.node (.node (.node .leaf none (.node .leaf (some ty539) .leaf)) none (.node .leaf (some ty283) .leaf)) none (.node .leaf none (.node .leaf (some ty411) .leaf))) none (.node .leaf (some ty91) .leaf)) (some ty27) (.node (.node .leaf none (.node .leaf (some ty187) (.node .leaf (some ty443) .leaf))) (some ty59) (.node (.node .leaf none (.node .leaf (some ty379) .leaf)) (some ty123) (.node .leaf (some ty251) .leaf)))))) (some ty3) (.node (.node (.node (.node (.node (.node .leaf none (.node .leaf (some ty263) .leaf)) none (.node .leaf (some ty135) .leaf)) none (.node (.node .leaf none (.node .leaf (some ty327) .leaf)) none (.node .leaf (some ty199) .leaf))) none (.node (.node .leaf none (.node .leaf (some ty167) .leaf)) (some ty39) (.node (.node .leaf none (.node .leaf (some ty359) .leaf)) (some ty103) (.node .leaf (some ty231) (.node .leaf (some ty487) .leaf))))) none (.node (.node (.node (.node .leaf none (.node .leaf (some ty279) .leaf)) none .leaf) none (.node (.node .leaf none (.node .leaf (some ty343) .leaf)) (some ty87) (.node .leaf (some ty215) .leaf))) (some ty23) (.node (.node (.node .leaf none (.node .leaf (some ty311) .leaf)) none .leaf) none (.node .leaf none (.node .leaf (some ty247) .leaf))))) (some ty7) (.node (.node (.node (.node (.node .leaf none (.node .leaf (some ty271) .leaf)) none .leaf) none (.node .leaf (some ty79) (.node .leaf (some ty207) .leaf))) none (.node (.node (.node .leaf none (.node .leaf (some ty303) .leaf)) none (.node .leaf none (.node .leaf (some ty431) .leaf))) (some ty47) (.node (.node .leaf none (.node .leaf (some ty367) .leaf)) (some ty111) (.node .leaf (some ty239) .leaf)))) (some ty15) (.node (.node (.node .leaf none (.node .leaf (some ty159) .leaf)) none (.node .leaf none (.node .leaf (some ty223) .leaf))) (some ty31) (.node (.node .leaf none (.node .leaf (some ty191) .leaf)) none (.node (.node .leaf none (.node .leaf (some ty383) .leaf)) (some ty127) (.node .leaf (some ty255) .leaf)))))))))
noncomputable def tyAt (t : TypeId) : Option TypeInfo :=
 match tyTree.get (bits t t) with
 | some r => match Nat.beq r.num t with
  | true => some r.info
  | false => none
 | none => none
theorem tyAt_ok (t : TypeId) (i : TypeInfo) (h : tyAt t = some i) : Tryz.prog.info? t = some i := by
 unfold tyAt at h
 split at h
 ·rename_i r _
  split at h
  ·rename_i hb
   cases h
   rw [← Nat.eq_of_beq_eq_true hb]
   exact r.at'
  ·cases h
 ·cases h
structure ExtRow where
 num : FuncId
 ext : Ext
 is : ExtIs Tryz.prog num ext
noncomputable def ext122 : ExtRow := ⟨122, (.loadI .i64), ⟨Tryz.f122, Tryz.func122, by kernel_rfl, by kernel_rfl, by kernel_rfl, by kernel_rfl⟩⟩
noncomputable def ext123 : ExtRow := ⟨123, (.clone), ⟨Tryz.f123, Tryz.func123, by kernel_rfl, by kernel_rfl, by kernel_rfl, by kernel_rfl⟩⟩
noncomputable def ext124 : ExtRow := ⟨124, (.storeI), ⟨Tryz.f124, Tryz.func124, by kernel_rfl, by kernel_rfl, by kernel_rfl, by kernel_rfl⟩⟩
noncomputable def ext188 : ExtRow := ⟨188, (.addI .i64), ⟨Tryz.f188, Tryz.func188, by kernel_rfl, by kernel_rfl, by kernel_rfl, by kernel_rfl⟩⟩
noncomputable def ext319 : ExtRow := ⟨319, (.loadI .u32), ⟨Tryz.f319, Tryz.func319, by kernel_rfl, by kernel_rfl, by kernel_rfl, by kernel_rfl⟩⟩
noncomputable def ext348 : ExtRow := ⟨348, (.storeI), ⟨Tryz.f348, Tryz.func348, by kernel_rfl, by kernel_rfl, by kernel_rfl, by kernel_rfl⟩⟩
noncomputable def ext353 : ExtRow := ⟨353, (.add64), ⟨Tryz.f353, Tryz.func353, by kernel_rfl, by kernel_rfl, by kernel_rfl, by kernel_rfl⟩⟩
noncomputable def ext354 : ExtRow := ⟨354, (.sub64), ⟨Tryz.f354, Tryz.func354, by kernel_rfl, by kernel_rfl, by kernel_rfl, by kernel_rfl⟩⟩
noncomputable def ext368 : ExtRow := ⟨368, (.raceN .disable), ⟨Tryz.f368, Tryz.func368, by kernel_rfl, by kernel_rfl, by kernel_rfl, by kernel_rfl⟩⟩
noncomputable def ext369 : ExtRow := ⟨369, (.casI .i32), ⟨Tryz.f369, Tryz.func369, by kernel_rfl, by kernel_rfl, by kernel_rfl, by kernel_rfl⟩⟩
noncomputable def ext370 : ExtRow := ⟨370, (.raceN .enable), ⟨Tryz.f370, Tryz.func370, by kernel_rfl, by kernel_rfl, by kernel_rfl, by kernel_rfl⟩⟩
noncomputable def ext371 : ExtRow := ⟨371, (.raceA .acquire), ⟨Tryz.f371, Tryz.func371, by kernel_rfl, by kernel_rfl, by kernel_rfl, by kernel_rfl⟩⟩
noncomputable def ext373 : ExtRow := ⟨373, (.raceA .releaseMerge), ⟨Tryz.f373, Tryz.func373, by kernel_rfl, by kernel_rfl, by kernel_rfl, by kernel_rfl⟩⟩
noncomputable def ext374 : ExtRow := ⟨374, (.addI .i32), ⟨Tryz.f374, Tryz.func374, by kernel_rfl, by kernel_rfl, by kernel_rfl, by kernel_rfl⟩⟩
noncomputable def extTree : BT ExtRow := (.node (.node (.node (.node (.node .leaf none (.node .leaf none (.node .leaf none (.node (.node .leaf none (.node .leaf (some ext368) .leaf)) none .leaf)))) none .leaf) none (.node .leaf none (.node .leaf none (.node (.node .leaf none (.node (.node .leaf none (.node .leaf (some ext348) .leaf)) none .leaf)) none (.node (.node .leaf none (.node .leaf (some ext188) .leaf)) none (.node .leaf (some ext124) .leaf)))))) none (.node (.node (.node (.node .leaf none (.node .leaf none (.node (.node .leaf none (.node .leaf (some ext354) .leaf)) none .leaf))) none (.node .leaf none (.node .leaf none (.node (.node .leaf none (.node .leaf (some ext370) .leaf)) none .leaf)))) none (.node .leaf none (.node .leaf none (.node .leaf none (.node .leaf (some ext122) .leaf))))) none (.node (.node .leaf none (.node .leaf none (.node .leaf none (.node (.node .leaf none (.node .leaf (some ext374) .leaf)) none .leaf)))) none .leaf))) none (.node (.node (.node (.node (.node .leaf none (.node .leaf none (.node (.node .leaf none (.node .leaf (some ext353) .leaf)) none .leaf))) none (.node .leaf none (.node .leaf none (.node (.node .leaf none (.node .leaf (some ext369) .leaf)) none .leaf)))) none .leaf) none (.node (.node .leaf none (.node .leaf none (.node .leaf none (.node (.node .leaf none (.node .leaf (some ext373) .leaf)) none .leaf)))) none .leaf)) none (.node (.node (.node .leaf none (.node .leaf none (.node .leaf none (.node (.node .leaf none (.node .leaf (some ext371) .leaf)) none .leaf)))) none (.node .leaf none (.node .leaf none (.node .leaf none (.node .leaf (some ext123) .leaf))))) none (.node .leaf none (.node .leaf none (.node .leaf none (.node (.node (.node .leaf none (.node .leaf (some ext319) .leaf)) none .leaf) none .leaf)))))))
noncomputable def extAt (f : FuncId) : Option Ext :=
 match extTree.get (bits f f) with
 | some r => match Nat.beq r.num f with
  | true => some r.ext
  | false => none
 | none => none
theorem extAt_ok (f : FuncId) (x : Ext) (h : extAt f = some x) : ExtIs Tryz.prog f x := by
 unfold extAt at h
 split at h
 ·rename_i r _
  split at h
  ·rename_i hb
   cases h
   rw [← Nat.eq_of_beq_eq_true hb]
   exact r.is
  ·cases h
 ·cases h
theorem stat3 : statAll (btAll 3) (Tryz.f3.body.getD .skip) = true := by kernel_rfl
theorem stat4 : statAll (btAll 4) (Tryz.f4.body.getD .skip) = true := by kernel_rfl
theorem stat5 : statAll (btAll 5) (Tryz.f5.body.getD .skip) = true := by kernel_rfl
theorem stat6 : statAll (btAll 6) (Tryz.f6.body.getD .skip) = true := by kernel_rfl
theorem stat7 : statAll (btAll 7) (Tryz.f7.body.getD .skip) = true := by kernel_rfl
theorem stat8 : statAll (btAll 8) (Tryz.f8.body.getD .skip) = true := by kernel_rfl
theorem stat9 : statAll (btAll 9) (Tryz.f9.body.getD .skip) = true := by kernel_rfl
theorem stat10 : statAll (btAll 10) (Tryz.f10.body.getD .skip) = true := by kernel_rfl
theorem stat11 : statAll (btAll 11) (Tryz.f11.body.getD .skip) = true := by kernel_rfl
theorem stat12 : statAll (btAll 12) (Tryz.f12.body.getD .skip) = true := by kernel_rfl
theorem stat13 : statAll (btAll 13) (Tryz.f13.body.getD .skip) = true := by kernel_rfl
theorem stat14 : statAll (btAll 14) (Tryz.f14.body.getD .skip) = true := by kernel_rfl
theorem stat15 : statAll (btAll 15) (Tryz.f15.body.getD .skip) = true := by kernel_rfl
theorem stat16 : statAll (btAll 16) (Tryz.f16.body.getD .skip) = true := by kernel_rfl
theorem stat17 : statAll (btAll 17) (Tryz.f17.body.getD .skip) = true := by kernel_rfl
theorem stat18 : statAll (btAll 18) (Tryz.f18.body.getD .skip) = true := by kernel_rfl
theorem stat19 : statAll (btAll 19) (Tryz.f19.body.getD .skip) = true := by kernel_rfl
theorem stat20 : statAll (btAll 20) (Tryz.f20.body.getD .skip) = true := by kernel_rfl
theorem stat21 : statAll (btAll 21) (Tryz.f21.body.getD .skip) = true := by kernel_rfl
theorem stat22 : statAll (btAll 22) (Tryz.f22.body.getD .skip) = true := by kernel_rfl
theorem stat23 : statAll (btAll 23) (Tryz.f23.body.getD .skip) = true := by kernel_rfl
theorem stat24 : statAll (btAll 24) (Tryz.f24.body.getD .skip) = true := by kernel_rfl
theorem stat25 : statAll (btAll 25) (Tryz.f25.body.getD .skip) = true := by kernel_rfl
theorem stat26 : statAll (btAll 26) (Tryz.f26.body.getD .skip) = true := by kernel_rfl
theorem stat27 : statAll (btAll 27) (Tryz.f27.body.getD .skip) = true := by kernel_rfl
theorem stat28 : statAll (btAll 28) (Tryz.f28.body.getD .skip) = true := by kernel_rfl
theorem stat29 : statAll (btAll 29) (Tryz.f29.body.getD .skip) = true := by kernel_rfl
theorem stat30 : statAll (btAll 30) (Tryz.f30.body.getD .skip) = true := by kernel_rfl
theorem stat31 : statAll (btAll 31) (Tryz.f31.body.getD .skip) = true := by kernel_rfl
theorem stat32 : statAll (btAll 32) (Tryz.f32.body.getD .skip) = true := by kernel_rfl
theorem stat33 : statAll (btAll 33) (Tryz.f33.body.getD .skip) = true := by kernel_rfl
theorem stat34 : statAll (btAll 34) (Tryz.f34.body.getD .skip) = true := by kernel_rfl
theorem stat35 : statAll (btAll 35) (Tryz.f35.body.getD .skip) = true := by kernel_rfl
theorem stat36 : statAll (btAll 36) (Tryz.f36.body.getD .skip) = true := by kernel_rfl
theorem stat37 : statAll (btAll 37) (Tryz.f37.body.getD .skip) = true := by kernel_rfl
theorem stat38 : statAll (btAll 38) (Tryz.f38.body.getD .skip) = true := by kernel_rfl
theorem stat39 : statAll (btAll 39) (Tryz.f39.body.getD .skip) = true := by kernel_rfl
theorem stat40 : statAll (btAll 40) (Tryz.f40.body.getD .skip) = true := by kernel_rfl
theorem stat41 : statAll (btAll 41) (Tryz.f41.body.getD .skip) = true := by kernel_rfl
theorem stat42 : statAll (btAll 42) (Tryz.f42.body.getD .skip) = true := by kernel_rfl
theorem stat43 : statAll (btAll 43) (Tryz.f43.body.getD .skip) = true := by kernel_rfl
theorem stat44 : statAll (btAll 44) (Tryz.f44.body.getD .skip) = true := by kernel_rfl
theorem stat45 : statAll (btAll 45) (Tryz.f45.body.getD .skip) = true := by kernel_rfl
theorem stat46 : statAll (btAll 46) (Tryz.f46.body.getD .skip) = true := by kernel_rfl
theorem stat47 : statAll (btAll 47) (Tryz.f47.body.getD .skip) = true := by kernel_rfl
theorem stat48 : statAll (btAll 48) (Tryz.f48.body.getD .skip) = true := by kernel_rfl
theorem stat49 : statAll (btAll 49) (Tryz.f49.body.getD .skip) = true := by kernel_rfl
theorem stat50 : statAll (btAll 50) (Tryz.f50.body.getD .skip) = true := by kernel_rfl
theorem stat51 : statAll (btAll 51) (Tryz.f51.body.getD .skip) = true := by kernel_rfl
theorem stat52 : statAll (btAll 52) (Tryz.f52.body.getD .skip) = true := by kernel_rfl
theorem stat53 : statAll (btAll 53) (Tryz.f53.body.getD .skip) = true := by kernel_rfl
theorem stat54 : statAll (btAll 54) (Tryz.f54.body.getD .skip) = true := by kernel_rfl
theorem stat55 : statAll (btAll 55) (Tryz.f55.body.getD .skip) = true := by kernel_rfl
theorem stat56 : statAll (btAll 56) (Tryz.f56.body.getD .skip) = true := by kernel_rfl
theorem stat57 : statAll (btAll 57) (Tryz.f57.body.getD .skip) = true := by kernel_rfl
theorem stat58 : statAll (btAll 58) (Tryz.f58.body.getD .skip) = true := by kernel_rfl
theorem stat59 : statAll (btAll 59) (Tryz.f59.body.getD .skip) = true := by kernel_rfl
theorem stat60 : statAll (btAll 60) (Tryz.f60.body.getD .skip) = true := by kernel_rfl
theorem stat61 : statAll (btAll 61) (Tryz.f61.body.getD .skip) = true := by kernel_rfl
theorem stat62 : statAll (btAll 62) (Tryz.f62.body.getD .skip) = true := by kernel_rfl
theorem stat63 : statAll (btAll 63) (Tryz.f63.body.getD .skip) = true := by kernel_rfl
theorem stat64 : statAll (btAll 64) (Tryz.f64.body.getD .skip) = true := by kernel_rfl
theorem stat65 : statAll (btAll 65) (Tryz.f65.body.getD .skip) = true := by kernel_rfl
theorem stat66 : statAll (btAll 66) (Tryz.f66.body.getD .skip) = true := by kernel_rfl
theorem stat67 : statAll (btAll 67) (Tryz.f67.body.getD .skip) = true := by kernel_rfl
theorem stat68 : statAll (btAll 68) (Tryz.f68.body.getD .skip) = true := by kernel_rfl
theorem stat69 : statAll (btAll 69) (Tryz.f69.body.getD .skip) = true := by kernel_rfl
theorem stat70 : statAll (btAll 70) (Tryz.f70.body.getD .skip) = true := by kernel_rfl
theorem stat71 : statAll (btAll 71) (Tryz.f71.body.getD .skip) = true := by kernel_rfl
theorem stat72 : statAll (btAll 72) (Tryz.f72.body.getD .skip) = true := by kernel_rfl
theorem stat73 : statAll (btAll 73) (Tryz.f73.body.getD .skip) = true := by kernel_rfl
theorem stat74 : statAll (btAll 74) (Tryz.f74.body.getD .skip) = true := by kernel_rfl
theorem stat75 : statAll (btAll 75) (Tryz.f75.body.getD .skip) = true := by kernel_rfl
theorem stat76 : statAll (btAll 76) (Tryz.f76.body.getD .skip) = true := by kernel_rfl
theorem stat77 : statAll (btAll 77) (Tryz.f77.body.getD .skip) = true := by kernel_rfl
theorem stat78 : statAll (btAll 78) (Tryz.f78.body.getD .skip) = true := by kernel_rfl
theorem stat79 : statAll (btAll 79) (Tryz.f79.body.getD .skip) = true := by kernel_rfl
theorem stat80 : statAll (btAll 80) (Tryz.f80.body.getD .skip) = true := by kernel_rfl
theorem stat81 : statAll (btAll 81) (Tryz.f81.body.getD .skip) = true := by kernel_rfl
theorem stat82 : statAll (btAll 82) (Tryz.f82.body.getD .skip) = true := by kernel_rfl
theorem stat83 : statAll (btAll 83) (Tryz.f83.body.getD .skip) = true := by kernel_rfl
theorem stat84 : statAll (btAll 84) (Tryz.f84.body.getD .skip) = true := by kernel_rfl
theorem stat85 : statAll (btAll 85) (Tryz.f85.body.getD .skip) = true := by kernel_rfl
theorem stat86 : statAll (btAll 86) (Tryz.f86.body.getD .skip) = true := by kernel_rfl
theorem stat87 : statAll (btAll 87) (Tryz.f87.body.getD .skip) = true := by kernel_rfl
theorem stat88 : statAll (btAll 88) (Tryz.f88.body.getD .skip) = true := by kernel_rfl
theorem stat89 : statAll (btAll 89) (Tryz.f89.body.getD .skip) = true := by kernel_rfl
theorem stat90 : statAll (btAll 90) (Tryz.f90.body.getD .skip) = true := by kernel_rfl
theorem stat91 : statAll (btAll 91) (Tryz.f91.body.getD .skip) = true := by kernel_rfl
theorem stat92 : statAll (btAll 92) (Tryz.f92.body.getD .skip) = true := by kernel_rfl
theorem stat93 : statAll (btAll 93) (Tryz.f93.body.getD .skip) = true := by kernel_rfl
theorem stat94 : statAll (btAll 94) (Tryz.f94.body.getD .skip) = true := by kernel_rfl
theorem stat95 : statAll (btAll 95) (Tryz.f95.body.getD .skip) = true := by kernel_rfl
theorem stat96 : statAll (btAll 96) (Tryz.f96.body.getD .skip) = true := by kernel_rfl
theorem stat97 : statAll (btAll 97) (Tryz.f97.body.getD .skip) = true := by kernel_rfl
theorem stat98 : statAll (btAll 98) (Tryz.f98.body.getD .skip) = true := by kernel_rfl
theorem stat99 : statAll (btAll 99) (Tryz.f99.body.getD .skip) = true := by kernel_rfl
theorem stat100 : statAll (btAll 100) (Tryz.f100.body.getD .skip) = true := by kernel_rfl
theorem stat101 : statAll (btAll 101) (Tryz.f101.body.getD .skip) = true := by kernel_rfl
theorem stat102 : statAll (btAll 102) (Tryz.f102.body.getD .skip) = true := by kernel_rfl
theorem stat103 : statAll (btAll 103) (Tryz.f103.body.getD .skip) = true := by kernel_rfl
theorem stat104 : statAll (btAll 104) (Tryz.f104.body.getD .skip) = true := by kernel_rfl
theorem stat105 : statAll (btAll 105) (Tryz.f105.body.getD .skip) = true := by kernel_rfl
theorem stat106 : statAll (btAll 106) (Tryz.f106.body.getD .skip) = true := by kernel_rfl
theorem stat107 : statAll (btAll 107) (Tryz.f107.body.getD .skip) = true := by kernel_rfl
theorem stat108 : statAll (btAll 108) (Tryz.f108.body.getD .skip) = true := by kernel_rfl
theorem stat109 : statAll (btAll 109) (Tryz.f109.body.getD .skip) = true := by kernel_rfl
theorem stat110 : statAll (btAll 110) (Tryz.f110.body.getD .skip) = true := by kernel_rfl
theorem stat111 : statAll (btAll 111) (Tryz.f111.body.getD .skip) = true := by kernel_rfl
theorem stat112 : statAll (btAll 112) (Tryz.f112.body.getD .skip) = true := by kernel_rfl
theorem stat113 : statAll (btAll 113) (Tryz.f113.body.getD .skip) = true := by kernel_rfl
theorem stat114 : statAll (btAll 114) (Tryz.f114.body.getD .skip) = true := by kernel_rfl
theorem stat115 : statAll (btAll 115) (Tryz.f115.body.getD .skip) = true := by kernel_rfl
theorem stat116 : statAll (btAll 116) (Tryz.f116.body.getD .skip) = true := by kernel_rfl
theorem stat117 : statAll (btAll 117) (Tryz.f117.body.getD .skip) = true := by kernel_rfl
theorem stat118 : statAll (btAll 118) (Tryz.f118.body.getD .skip) = true := by kernel_rfl
theorem stat119 : statAll (btAll 119) (Tryz.f119.body.getD .skip) = true := by kernel_rfl
theorem stat120 : statAll (btAll 120) (Tryz.f120.body.getD .skip) = true := by kernel_rfl
theorem stat121 : statAll (btAll 121) (Tryz.f121.body.getD .skip) = true := by kernel_rfl
theorem stat125 : statAll (btAll 125) (Tryz.f125.body.getD .skip) = true := by kernel_rfl
theorem stat126 : statAll (btAll 126) (Tryz.f126.body.getD .skip) = true := by kernel_rfl
theorem stat127 : statAll (btAll 127) (Tryz.f127.body.getD .skip) = true := by kernel_rfl
theorem stat128 : statAll (btAll 128) (Tryz.f128.body.getD .skip) = true := by kernel_rfl
theorem stat129 : statAll (btAll 129) (Tryz.f129.body.getD .skip) = true := by kernel_rfl
theorem stat130 : statAll (btAll 130) (Tryz.f130.body.getD .skip) = true := by kernel_rfl
theorem stat131 : statAll (btAll 131) (Tryz.f131.body.getD .skip) = true := by kernel_rfl
theorem stat132 : statAll (btAll 132) (Tryz.f132.body.getD .skip) = true := by kernel_rfl
theorem stat133 : statAll (btAll 133) (Tryz.f133.body.getD .skip) = true := by kernel_rfl
theorem stat134 : statAll (btAll 134) (Tryz.f134.body.getD .skip) = true := by kernel_rfl
theorem stat135 : statAll (btAll 135) (Tryz.f135.body.getD .skip) = true := by kernel_rfl
theorem stat136 : statAll (btAll 136) (Tryz.f136.body.getD .skip) = true := by kernel_rfl
theorem stat137 : statAll (btAll 137) (Tryz.f137.body.getD .skip) = true := by kernel_rfl
theorem stat138 : statAll (btAll 138) (Tryz.f138.body.getD .skip) = true := by kernel_rfl
theorem stat139 : statAll (btAll 139) (Tryz.f139.body.getD .skip) = true := by kernel_rfl
theorem stat140 : statAll (btAll 140) (Tryz.f140.body.getD .skip) = true := by kernel_rfl
theorem stat141 : statAll (btAll 141) (Tryz.f141.body.getD .skip) = true := by kernel_rfl
theorem stat142 : statAll (btAll 142) (Tryz.f142.body.getD .skip) = true := by kernel_rfl
theorem stat143 : statAll (btAll 143) (Tryz.f143.body.getD .skip) = true := by kernel_rfl
theorem stat144 : statAll (btAll 144) (Tryz.f144.body.getD .skip) = true := by kernel_rfl
theorem stat145 : statAll (btAll 145) (Tryz.f145.body.getD .skip) = true := by kernel_rfl
theorem stat146 : statAll (btAll 146) (Tryz.f146.body.getD .skip) = true := by kernel_rfl
theorem stat147 : statAll (btAll 147) (Tryz.f147.body.getD .skip) = true := by kernel_rfl
theorem stat148 : statAll (btAll 148) (Tryz.f148.body.getD .skip) = true := by kernel_rfl
theorem stat149 : statAll (btAll 149) (Tryz.f149.body.getD .skip) = true := by kernel_rfl
theorem stat150 : statAll (btAll 150) (Tryz.f150.body.getD .skip) = true := by kernel_rfl
theorem stat151 : statAll (btAll 151) (Tryz.f151.body.getD .skip) = true := by kernel_rfl
theorem stat152 : statAll (btAll 152) (Tryz.f152.body.getD .skip) = true := by kernel_rfl
theorem stat153 : statAll (btAll 153) (Tryz.f153.body.getD .skip) = true := by kernel_rfl
theorem stat154 : statAll (btAll 154) (Tryz.f154.body.getD .skip) = true := by kernel_rfl
theorem stat155 : statAll (btAll 155) (Tryz.f155.body.getD .skip) = true := by kernel_rfl
theorem stat156 : statAll (btAll 156) (Tryz.f156.body.getD .skip) = true := by kernel_rfl
theorem stat157 : statAll (btAll 157) (Tryz.f157.body.getD .skip) = true := by kernel_rfl
theorem stat158 : statAll (btAll 158) (Tryz.f158.body.getD .skip) = true := by kernel_rfl
theorem stat159 : statAll (btAll 159) (Tryz.f159.body.getD .skip) = true := by kernel_rfl
theorem stat160 : statAll (btAll 160) (Tryz.f160.body.getD .skip) = true := by kernel_rfl
theorem stat161 : statAll (btAll 161) (Tryz.f161.body.getD .skip) = true := by kernel_rfl
theorem stat162 : statAll (btAll 162) (Tryz.f162.body.getD .skip) = true := by kernel_rfl
theorem stat163 : statAll (btAll 163) (Tryz.f163.body.getD .skip) = true := by kernel_rfl
theorem stat164 : statAll (btAll 164) (Tryz.f164.body.getD .skip) = true := by kernel_rfl
theorem stat165 : statAll (btAll 165) (Tryz.f165.body.getD .skip) = true := by kernel_rfl
theorem stat166 : statAll (btAll 166) (Tryz.f166.body.getD .skip) = true := by kernel_rfl
theorem stat167 : statAll (btAll 167) (Tryz.f167.body.getD .skip) = true := by kernel_rfl
theorem stat168 : statAll (btAll 168) (Tryz.f168.body.getD .skip) = true := by kernel_rfl
theorem stat169 : statAll (btAll 169) (Tryz.f169.body.getD .skip) = true := by kernel_rfl
theorem stat170 : statAll (btAll 170) (Tryz.f170.body.getD .skip) = true := by kernel_rfl
theorem stat171 : statAll (btAll 171) (Tryz.f171.body.getD .skip) = true := by kernel_rfl
theorem stat172 : statAll (btAll 172) (Tryz.f172.body.getD .skip) = true := by kernel_rfl
theorem stat173 : statAll (btAll 173) (Tryz.f173.body.getD .skip) = true := by kernel_rfl
theorem stat174 : statAll (btAll 174) (Tryz.f174.body.getD .skip) = true := by kernel_rfl
theorem stat175 : statAll (btAll 175) (Tryz.f175.body.getD .skip) = true := by kernel_rfl
theorem stat176 : statAll (btAll 176) (Tryz.f176.body.getD .skip) = true := by kernel_rfl
theorem stat177 : statAll (btAll 177) (Tryz.f177.body.getD .skip) = true := by kernel_rfl
theorem stat178 : statAll (btAll 178) (Tryz.f178.body.getD .skip) = true := by kernel_rfl
theorem stat179 : statAll (btAll 179) (Tryz.f179.body.getD .skip) = true := by kernel_rfl
theorem stat180 : statAll (btAll 180) (Tryz.f180.body.getD .skip) = true := by kernel_rfl
theorem stat181 : statAll (btAll 181) (Tryz.f181.body.getD .skip) = true := by kernel_rfl
theorem stat182 : statAll (btAll 182) (Tryz.f182.body.getD .skip) = true := by kernel_rfl
theorem stat183 : statAll (btAll 183) (Tryz.f183.body.getD .skip) = true := by kernel_rfl
theorem stat184 : statAll (btAll 184) (Tryz.f184.body.getD .skip) = true := by kernel_rfl
theorem stat185 : statAll (btAll 185) (Tryz.f185.body.getD .skip) = true := by kernel_rfl
theorem stat186 : statAll (btAll 186) (Tryz.f186.body.getD .skip) = true := by kernel_rfl
theorem stat187 : statAll (btAll 187) (Tryz.f187.body.getD .skip) = true := by kernel_rfl
theorem stat189 : statAll (btAll 189) (Tryz.f189.body.getD .skip) = true := by kernel_rfl
theorem stat190 : statAll (btAll 190) (Tryz.f190.body.getD .skip) = true := by kernel_rfl
theorem stat191 : statAll (btAll 191) (Tryz.f191.body.getD .skip) = true := by kernel_rfl
theorem stat192 : statAll (btAll 192) (Tryz.f192.body.getD .skip) = true := by kernel_rfl
theorem stat193 : statAll (btAll 193) (Tryz.f193.body.getD .skip) = true := by kernel_rfl
theorem stat194 : statAll (btAll 194) (Tryz.f194.body.getD .skip) = true := by kernel_rfl
theorem stat195 : statAll (btAll 195) (Tryz.f195.body.getD .skip) = true := by kernel_rfl
theorem stat196 : statAll (btAll 196) (Tryz.f196.body.getD .skip) = true := by kernel_rfl
theorem stat197 : statAll (btAll 197) (Tryz.f197.body.getD .skip) = true := by kernel_rfl
theorem stat198 : statAll (btAll 198) (Tryz.f198.body.getD .skip) = true := by kernel_rfl
theorem stat199 : statAll (btAll 199) (Tryz.f199.body.getD .skip) = true := by kernel_rfl
theorem stat200 : statAll (btAll 200) (Tryz.f200.body.getD .skip) = true := by kernel_rfl
theorem stat201 : statAll (btAll 201) (Tryz.f201.body.getD .skip) = true := by kernel_rfl
theorem stat202 : statAll (btAll 202) (Tryz.f202.body.getD .skip) = true := by kernel_rfl
theorem stat203 : statAll (btAll 203) (Tryz.f203.body.getD .skip) = true := by kernel_rfl
theorem stat204 : statAll (btAll 204) (Tryz.f204.body.getD .skip) = true := by kernel_rfl
theorem stat205 : statAll (btAll 205) (Tryz.f205.body.getD .skip) = true := by kernel_rfl
theorem stat206 : statAll (btAll 206) (Tryz.f206.body.getD .skip) = true := by kernel_rfl
theorem stat207 : statAll (btAll 207) (Tryz.f207.body.getD .skip) = true := by kernel_rfl
theorem stat208 : statAll (btAll 208) (Tryz.f208.body.getD .skip) = true := by kernel_rfl
theorem stat209 : statAll (btAll 209) (Tryz.f209.body.getD .skip) = true := by kernel_rfl
theorem stat210 : statAll (btAll 210) (Tryz.f210.body.getD .skip) = true := by kernel_rfl
theorem stat211 : statAll (btAll 211) (Tryz.f211.body.getD .skip) = true := by kernel_rfl
theorem stat212 : statAll (btAll 212) (Tryz.f212.body.getD .skip) = true := by kernel_rfl
theorem stat213 : statAll (btAll 213) (Tryz.f213.body.getD .skip) = true := by kernel_rfl
theorem stat214 : statAll (btAll 214) (Tryz.f214.body.getD .skip) = true := by kernel_rfl
theorem stat215 : statAll (btAll 215) (Tryz.f215.body.getD .skip) = true := by kernel_rfl
theorem stat216 : statAll (btAll 216) (Tryz.f216.body.getD .skip) = true := by kernel_rfl
theorem stat217 : statAll (btAll 217) (Tryz.f217.body.getD .skip) = true := by kernel_rfl
theorem stat218 : statAll (btAll 218) (Tryz.f218.body.getD .skip) = true := by kernel_rfl
theorem stat219 : statAll (btAll 219) (Tryz.f219.body.getD .skip) = true := by kernel_rfl
theorem stat220 : statAll (btAll 220) (Tryz.f220.body.getD .skip) = true := by kernel_rfl
theorem stat221 : statAll (btAll 221) (Tryz.f221.body.getD .skip) = true := by kernel_rfl
theorem stat222 : statAll (btAll 222) (Tryz.f222.body.getD .skip) = true := by kernel_rfl
theorem stat223 : statAll (btAll 223) (Tryz.f223.body.getD .skip) = true := by kernel_rfl
theorem stat224 : statAll (btAll 224) (Tryz.f224.body.getD .skip) = true := by kernel_rfl
theorem stat225 : statAll (btAll 225) (Tryz.f225.body.getD .skip) = true := by kernel_rfl
theorem stat226 : statAll (btAll 226) (Tryz.f226.body.getD .skip) = true := by kernel_rfl
theorem stat227 : statAll (btAll 227) (Tryz.f227.body.getD .skip) = true := by kernel_rfl
theorem stat228 : statAll (btAll 228) (Tryz.f228.body.getD .skip) = true := by kernel_rfl
theorem stat229 : statAll (btAll 229) (Tryz.f229.body.getD .skip) = true := by kernel_rfl
theorem stat230 : statAll (btAll 230) (Tryz.f230.body.getD .skip) = true := by kernel_rfl
theorem stat231 : statAll (btAll 231) (Tryz.f231.body.getD .skip) = true := by kernel_rfl
theorem stat232 : statAll (btAll 232) (Tryz.f232.body.getD .skip) = true := by kernel_rfl
theorem stat233 : statAll (btAll 233) (Tryz.f233.body.getD .skip) = true := by kernel_rfl
theorem stat234 : statAll (btAll 234) (Tryz.f234.body.getD .skip) = true := by kernel_rfl
theorem stat235 : statAll (btAll 235) (Tryz.f235.body.getD .skip) = true := by kernel_rfl
theorem stat236 : statAll (btAll 236) (Tryz.f236.body.getD .skip) = true := by kernel_rfl
theorem stat237 : statAll (btAll 237) (Tryz.f237.body.getD .skip) = true := by kernel_rfl
theorem stat238 : statAll (btAll 238) (Tryz.f238.body.getD .skip) = true := by kernel_rfl
theorem stat239 : statAll (btAll 239) (Tryz.f239.body.getD .skip) = true := by kernel_rfl
theorem stat240 : statAll (btAll 240) (Tryz.f240.body.getD .skip) = true := by kernel_rfl
theorem stat241 : statAll (btAll 241) (Tryz.f241.body.getD .skip) = true := by kernel_rfl
theorem stat242 : statAll (btAll 242) (Tryz.f242.body.getD .skip) = true := by kernel_rfl
theorem stat243 : statAll (btAll 243) (Tryz.f243.body.getD .skip) = true := by kernel_rfl
theorem stat244 : statAll (btAll 244) (Tryz.f244.body.getD .skip) = true := by kernel_rfl
theorem stat245 : statAll (btAll 245) (Tryz.f245.body.getD .skip) = true := by kernel_rfl
theorem stat246 : statAll (btAll 246) (Tryz.f246.body.getD .skip) = true := by kernel_rfl
theorem stat247 : statAll (btAll 247) (Tryz.f247.body.getD .skip) = true := by kernel_rfl
theorem stat248 : statAll (btAll 248) (Tryz.f248.body.getD .skip) = true := by kernel_rfl
theorem stat249 : statAll (btAll 249) (Tryz.f249.body.getD .skip) = true := by kernel_rfl
theorem stat250 : statAll (btAll 250) (Tryz.f250.body.getD .skip) = true := by kernel_rfl
theorem stat251 : statAll (btAll 251) (Tryz.f251.body.getD .skip) = true := by kernel_rfl
theorem stat252 : statAll (btAll 252) (Tryz.f252.body.getD .skip) = true := by kernel_rfl
theorem stat253 : statAll (btAll 253) (Tryz.f253.body.getD .skip) = true := by kernel_rfl
theorem stat254 : statAll (btAll 254) (Tryz.f254.body.getD .skip) = true := by kernel_rfl
theorem stat255 : statAll (btAll 255) (Tryz.f255.body.getD .skip) = true := by kernel_rfl
theorem stat256 : statAll (btAll 256) (Tryz.f256.body.getD .skip) = true := by kernel_rfl
theorem stat257 : statAll (btAll 257) (Tryz.f257.body.getD .skip) = true := by kernel_rfl
theorem stat258 : statAll (btAll 258) (Tryz.f258.body.getD .skip) = true := by kernel_rfl
theorem stat259 : statAll (btAll 259) (Tryz.f259.body.getD .skip) = true := by kernel_rfl
theorem stat260 : statAll (btAll 260) (Tryz.f260.body.getD .skip) = true := by kernel_rfl
theorem stat261 : statAll (btAll 261) (Tryz.f261.body.getD .skip) = true := by kernel_rfl
theorem stat262 : statAll (btAll 262) (Tryz.f262.body.getD .skip) = true := by kernel_rfl
theorem stat263 : statAll (btAll 263) (Tryz.f263.body.getD .skip) = true := by kernel_rfl
theorem stat264 : statAll (btAll 264) (Tryz.f264.body.getD .skip) = true := by kernel_rfl
theorem stat265 : statAll (btAll 265) (Tryz.f265.body.getD .skip) = true := by kernel_rfl
theorem stat266 : statAll (btAll 266) (Tryz.f266.body.getD .skip) = true := by kernel_rfl
theorem stat267 : statAll (btAll 267) (Tryz.f267.body.getD .skip) = true := by kernel_rfl
theorem stat268 : statAll (btAll 268) (Tryz.f268.body.getD .skip) = true := by kernel_rfl
theorem stat269 : statAll (btAll 269) (Tryz.f269.body.getD .skip) = true := by kernel_rfl
theorem stat270 : statAll (btAll 270) (Tryz.f270.body.getD .skip) = true := by kernel_rfl
theorem stat271 : statAll (btAll 271) (Tryz.f271.body.getD .skip) = true := by kernel_rfl
theorem stat272 : statAll (btAll 272) (Tryz.f272.body.getD .skip) = true := by kernel_rfl
theorem stat273 : statAll (btAll 273) (Tryz.f273.body.getD .skip) = true := by kernel_rfl
theorem stat274 : statAll (btAll 274) (Tryz.f274.body.getD .skip) = true := by kernel_rfl
theorem stat275 : statAll (btAll 275) (Tryz.f275.body.getD .skip) = true := by kernel_rfl
theorem stat276 : statAll (btAll 276) (Tryz.f276.body.getD .skip) = true := by kernel_rfl
theorem stat277 : statAll (btAll 277) (Tryz.f277.body.getD .skip) = true := by kernel_rfl
theorem stat278 : statAll (btAll 278) (Tryz.f278.body.getD .skip) = true := by kernel_rfl
theorem stat279 : statAll (btAll 279) (Tryz.f279.body.getD .skip) = true := by kernel_rfl
theorem stat280 : statAll (btAll 280) (Tryz.f280.body.getD .skip) = true := by kernel_rfl
theorem stat281 : statAll (btAll 281) (Tryz.f281.body.getD .skip) = true := by kernel_rfl
theorem stat282 : statAll (btAll 282) (Tryz.f282.body.getD .skip) = true := by kernel_rfl
theorem stat283 : statAll (btAll 283) (Tryz.f283.body.getD .skip) = true := by kernel_rfl
theorem stat284 : statAll (btAll 284) (Tryz.f284.body.getD .skip) = true := by kernel_rfl
theorem stat285 : statAll (btAll 285) (Tryz.f285.body.getD .skip) = true := by kernel_rfl
theorem stat286 : statAll (btAll 286) (Tryz.f286.body.getD .skip) = true := by kernel_rfl
theorem stat287 : statAll (btAll 287) (Tryz.f287.body.getD .skip) = true := by kernel_rfl
theorem stat288 : statAll (btAll 288) (Tryz.f288.body.getD .skip) = true := by kernel_rfl
theorem stat289 : statAll (btAll 289) (Tryz.f289.body.getD .skip) = true := by kernel_rfl
theorem stat290 : statAll (btAll 290) (Tryz.f290.body.getD .skip) = true := by kernel_rfl
theorem stat291 : statAll (btAll 291) (Tryz.f291.body.getD .skip) = true := by kernel_rfl
theorem stat292 : statAll (btAll 292) (Tryz.f292.body.getD .skip) = true := by kernel_rfl
theorem stat293 : statAll (btAll 293) (Tryz.f293.body.getD .skip) = true := by kernel_rfl
theorem stat294 : statAll (btAll 294) (Tryz.f294.body.getD .skip) = true := by kernel_rfl
theorem stat295 : statAll (btAll 295) (Tryz.f295.body.getD .skip) = true := by kernel_rfl
theorem stat296 : statAll (btAll 296) (Tryz.f296.body.getD .skip) = true := by kernel_rfl
theorem stat297 : statAll (btAll 297) (Tryz.f297.body.getD .skip) = true := by kernel_rfl
theorem stat298 : statAll (btAll 298) (Tryz.f298.body.getD .skip) = true := by kernel_rfl
theorem stat299 : statAll (btAll 299) (Tryz.f299.body.getD .skip) = true := by kernel_rfl
theorem stat300 : statAll (btAll 300) (Tryz.f300.body.getD .skip) = true := by kernel_rfl
theorem stat301 : statAll (btAll 301) (Tryz.f301.body.getD .skip) = true := by kernel_rfl
theorem stat302 : statAll (btAll 302) (Tryz.f302.body.getD .skip) = true := by kernel_rfl
theorem stat303 : statAll (btAll 303) (Tryz.f303.body.getD .skip) = true := by kernel_rfl
theorem stat304 : statAll (btAll 304) (Tryz.f304.body.getD .skip) = true := by kernel_rfl
theorem stat305 : statAll (btAll 305) (Tryz.f305.body.getD .skip) = true := by kernel_rfl
theorem stat306 : statAll (btAll 306) (Tryz.f306.body.getD .skip) = true := by kernel_rfl
theorem stat307 : statAll (btAll 307) (Tryz.f307.body.getD .skip) = true := by kernel_rfl
theorem stat308 : statAll (btAll 308) (Tryz.f308.body.getD .skip) = true := by kernel_rfl
theorem stat309 : statAll (btAll 309) (Tryz.f309.body.getD .skip) = true := by kernel_rfl
theorem stat310 : statAll (btAll 310) (Tryz.f310.body.getD .skip) = true := by kernel_rfl
theorem stat311 : statAll (btAll 311) (Tryz.f311.body.getD .skip) = true := by kernel_rfl
theorem stat312 : statAll (btAll 312) (Tryz.f312.body.getD .skip) = true := by kernel_rfl
theorem stat313 : statAll (btAll 313) (Tryz.f313.body.getD .skip) = true := by kernel_rfl
theorem stat314 : statAll (btAll 314) (Tryz.f314.body.getD .skip) = true := by kernel_rfl
theorem stat315 : statAll (btAll 315) (Tryz.f315.body.getD .skip) = true := by kernel_rfl
theorem stat316 : statAll (btAll 316) (Tryz.f316.body.getD .skip) = true := by kernel_rfl
theorem stat317 : statAll (btAll 317) (Tryz.f317.body.getD .skip) = true := by kernel_rfl
theorem stat318 : statAll (btAll 318) (Tryz.f318.body.getD .skip) = true := by kernel_rfl
theorem stat320 : statAll (btAll 320) (Tryz.f320.body.getD .skip) = true := by kernel_rfl
theorem stat321 : statAll (btAll 321) (Tryz.f321.body.getD .skip) = true := by kernel_rfl
theorem stat322 : statAll (btAll 322) (Tryz.f322.body.getD .skip) = true := by kernel_rfl
theorem stat323 : statAll (btAll 323) (Tryz.f323.body.getD .skip) = true := by kernel_rfl
theorem stat324 : statAll (btAll 324) (Tryz.f324.body.getD .skip) = true := by kernel_rfl
theorem stat325 : statAll (btAll 325) (Tryz.f325.body.getD .skip) = true := by kernel_rfl
theorem stat326 : statAll (btAll 326) (Tryz.f326.body.getD .skip) = true := by kernel_rfl
theorem stat327 : statAll (btAll 327) (Tryz.f327.body.getD .skip) = true := by kernel_rfl
theorem stat328 : statAll (btAll 328) (Tryz.f328.body.getD .skip) = true := by kernel_rfl
theorem stat329 : statAll (btAll 329) (Tryz.f329.body.getD .skip) = true := by kernel_rfl
theorem stat330 : statAll (btAll 330) (Tryz.f330.body.getD .skip) = true := by kernel_rfl
theorem stat331 : statAll (btAll 331) (Tryz.f331.body.getD .skip) = true := by kernel_rfl
theorem stat332 : statAll (btAll 332) (Tryz.f332.body.getD .skip) = true := by kernel_rfl
theorem stat333 : statAll (btAll 333) (Tryz.f333.body.getD .skip) = true := by kernel_rfl
theorem stat334 : statAll (btAll 334) (Tryz.f334.body.getD .skip) = true := by kernel_rfl
theorem stat335 : statAll (btAll 335) (Tryz.f335.body.getD .skip) = true := by kernel_rfl
theorem stat336 : statAll (btAll 336) (Tryz.f336.body.getD .skip) = true := by kernel_rfl
theorem stat337 : statAll (btAll 337) (Tryz.f337.body.getD .skip) = true := by kernel_rfl
theorem stat338 : statAll (btAll 338) (Tryz.f338.body.getD .skip) = true := by kernel_rfl
theorem stat339 : statAll (btAll 339) (Tryz.f339.body.getD .skip) = true := by kernel_rfl
theorem stat340 : statAll (btAll 340) (Tryz.f340.body.getD .skip) = true := by kernel_rfl
theorem stat341 : statAll (btAll 341) (Tryz.f341.body.getD .skip) = true := by kernel_rfl
theorem stat342 : statAll (btAll 342) (Tryz.f342.body.getD .skip) = true := by kernel_rfl
theorem stat343 : statAll (btAll 343) (Tryz.f343.body.getD .skip) = true := by kernel_rfl
theorem stat344 : statAll (btAll 344) (Tryz.f344.body.getD .skip) = true := by kernel_rfl
theorem stat345 : statAll (btAll 345) (Tryz.f345.body.getD .skip) = true := by kernel_rfl
theorem stat346 : statAll (btAll 346) (Tryz.f346.body.getD .skip) = true := by kernel_rfl
theorem stat347 : statAll (btAll 347) (Tryz.f347.body.getD .skip) = true := by kernel_rfl
theorem stat349 : statAll (btAll 349) (Tryz.f349.body.getD .skip) = true := by kernel_rfl
theorem stat350 : statAll (btAll 350) (Tryz.f350.body.getD .skip) = true := by kernel_rfl
theorem stat351 : statAll (btAll 351) (Tryz.f351.body.getD .skip) = true := by kernel_rfl
theorem stat352 : statAll (btAll 352) (Tryz.f352.body.getD .skip) = true := by kernel_rfl
theorem stat355 : statAll (btAll 355) (Tryz.f355.body.getD .skip) = true := by kernel_rfl
theorem stat356 : statAll (btAll 356) (Tryz.f356.body.getD .skip) = true := by kernel_rfl
theorem stat357 : statAll (btAll 357) (Tryz.f357.body.getD .skip) = true := by kernel_rfl
theorem stat358 : statAll (btAll 358) (Tryz.f358.body.getD .skip) = true := by kernel_rfl
theorem stat359 : statAll (btAll 359) (Tryz.f359.body.getD .skip) = true := by kernel_rfl
theorem stat360 : statAll (btAll 360) (Tryz.f360.body.getD .skip) = true := by kernel_rfl
theorem stat361 : statAll (btAll 361) (Tryz.f361.body.getD .skip) = true := by kernel_rfl
theorem stat362 : statAll (btAll 362) (Tryz.f362.body.getD .skip) = true := by kernel_rfl
theorem stat363 : statAll (btAll 363) (Tryz.f363.body.getD .skip) = true := by kernel_rfl
theorem stat364 : statAll (btAll 364) (Tryz.f364.body.getD .skip) = true := by kernel_rfl
theorem stat365 : statAll (btAll 365) (Tryz.f365.body.getD .skip) = true := by kernel_rfl
theorem stat366 : statAll (btAll 366) (Tryz.f366.body.getD .skip) = true := by kernel_rfl
theorem stat367 : statAll (btAll 367) (Tryz.f367.body.getD .skip) = true := by kernel_rfl
theorem stat372 : statAll (btAll 372) (Tryz.f372.body.getD .skip) = true := by kernel_rfl
theorem stat375 : statAll (btAll 375) (Tryz.f375.body.getD .skip) = true := by kernel_rfl
theorem stat376 : statAll (btAll 376) (Tryz.f376.body.getD .skip) = true := by kernel_rfl
theorem stat377 : statAll (btAll 377) (Tryz.f377.body.getD .skip) = true := by kernel_rfl
theorem stat378 : statAll (btAll 378) (Tryz.f378.body.getD .skip) = true := by kernel_rfl
theorem stat379 : statAll (btAll 379) (Tryz.f379.body.getD .skip) = true := by kernel_rfl
theorem stat380 : statAll (btAll 380) (Tryz.f380.body.getD .skip) = true := by kernel_rfl
theorem stat381 : statAll (btAll 381) (Tryz.f381.body.getD .skip) = true := by kernel_rfl
theorem stat389 : statAll (btAll 389) (Tryz.f389.body.getD .skip) = true := by kernel_rfl
theorem stat390 : statAll (btAll 390) (Tryz.f390.body.getD .skip) = true := by kernel_rfl
theorem has3 : HasBody Tryz.prog 3 := cP_ok.bodies 3 (cx_bodies Tryz.func3 (by kernel_rfl))
theorem has4 : HasBody Tryz.prog 4 := cP_ok.bodies 4 (cx_bodies Tryz.func4 (by kernel_rfl))
theorem has5 : HasBody Tryz.prog 5 := cP_ok.bodies 5 (cx_bodies Tryz.func5 (by kernel_rfl))
theorem has6 : HasBody Tryz.prog 6 := cP_ok.bodies 6 (cx_bodies Tryz.func6 (by kernel_rfl))
theorem has7 : HasBody Tryz.prog 7 := cP_ok.bodies 7 (cx_bodies Tryz.func7 (by kernel_rfl))
theorem has8 : HasBody Tryz.prog 8 := cP_ok.bodies 8 (cx_bodies Tryz.func8 (by kernel_rfl))
theorem has9 : HasBody Tryz.prog 9 := cP_ok.bodies 9 (cx_bodies Tryz.func9 (by kernel_rfl))
theorem has10 : HasBody Tryz.prog 10 := cP_ok.bodies 10 (cx_bodies Tryz.func10 (by kernel_rfl))
theorem has11 : HasBody Tryz.prog 11 := cP_ok.bodies 11 (cx_bodies Tryz.func11 (by kernel_rfl))
theorem has12 : HasBody Tryz.prog 12 := cP_ok.bodies 12 (cx_bodies Tryz.func12 (by kernel_rfl))
theorem has13 : HasBody Tryz.prog 13 := cP_ok.bodies 13 (cx_bodies Tryz.func13 (by kernel_rfl))
theorem has14 : HasBody Tryz.prog 14 := cP_ok.bodies 14 (cx_bodies Tryz.func14 (by kernel_rfl))
theorem has15 : HasBody Tryz.prog 15 := cP_ok.bodies 15 (cx_bodies Tryz.func15 (by kernel_rfl))
theorem has16 : HasBody Tryz.prog 16 := cP_ok.bodies 16 (cx_bodies Tryz.func16 (by kernel_rfl))
theorem has17 : HasBody Tryz.prog 17 := cP_ok.bodies 17 (cx_bodies Tryz.func17 (by kernel_rfl))
theorem has18 : HasBody Tryz.prog 18 := cP_ok.bodies 18 (cx_bodies Tryz.func18 (by kernel_rfl))
theorem has19 : HasBody Tryz.prog 19 := cP_ok.bodies 19 (cx_bodies Tryz.func19 (by kernel_rfl))
theorem has20 : HasBody Tryz.prog 20 := cP_ok.bodies 20 (cx_bodies Tryz.func20 (by kernel_rfl))
theorem has21 : HasBody Tryz.prog 21 := cP_ok.bodies 21 (cx_bodies Tryz.func21 (by kernel_rfl))
theorem has22 : HasBody Tryz.prog 22 := cP_ok.bodies 22 (cx_bodies Tryz.func22 (by kernel_rfl))
theorem has23 : HasBody Tryz.prog 23 := cP_ok.bodies 23 (cx_bodies Tryz.func23 (by kernel_rfl))
theorem has24 : HasBody Tryz.prog 24 := cP_ok.bodies 24 (cx_bodies Tryz.func24 (by kernel_rfl))
theorem has25 : HasBody Tryz.prog 25 := cP_ok.bodies 25 (cx_bodies Tryz.func25 (by kernel_rfl))
theorem has26 : HasBody Tryz.prog 26 := cP_ok.bodies 26 (cx_bodies Tryz.func26 (by kernel_rfl))
theorem has27 : HasBody Tryz.prog 27 := cP_ok.bodies 27 (cx_bodies Tryz.func27 (by kernel_rfl))
theorem has28 : HasBody Tryz.prog 28 := cP_ok.bodies 28 (cx_bodies Tryz.func28 (by kernel_rfl))
theorem has29 : HasBody Tryz.prog 29 := cP_ok.bodies 29 (cx_bodies Tryz.func29 (by kernel_rfl))
theorem has30 : HasBody Tryz.prog 30 := cP_ok.bodies 30 (cx_bodies Tryz.func30 (by kernel_rfl))
theorem has31 : HasBody Tryz.prog 31 := cP_ok.bodies 31 (cx_bodies Tryz.func31 (by kernel_rfl))
theorem has32 : HasBody Tryz.prog 32 := cP_ok.bodies 32 (cx_bodies Tryz.func32 (by kernel_rfl))
theorem has33 : HasBody Tryz.prog 33 := cP_ok.bodies 33 (cx_bodies Tryz.func33 (by kernel_rfl))
theorem has34 : HasBody Tryz.prog 34 := cP_ok.bodies 34 (cx_bodies Tryz.func34 (by kernel_rfl))
theorem has35 : HasBody Tryz.prog 35 := cP_ok.bodies 35 (cx_bodies Tryz.func35 (by kernel_rfl))
theorem has36 : HasBody Tryz.prog 36 := cP_ok.bodies 36 (cx_bodies Tryz.func36 (by kernel_rfl))
theorem has37 : HasBody Tryz.prog 37 := cP_ok.bodies 37 (cx_bodies Tryz.func37 (by kernel_rfl))
theorem has38 : HasBody Tryz.prog 38 := cP_ok.bodies 38 (cx_bodies Tryz.func38 (by kernel_rfl))
theorem has39 : HasBody Tryz.prog 39 := cP_ok.bodies 39 (cx_bodies Tryz.func39 (by kernel_rfl))
theorem has40 : HasBody Tryz.prog 40 := cP_ok.bodies 40 (cx_bodies Tryz.func40 (by kernel_rfl))
theorem has41 : HasBody Tryz.prog 41 := cP_ok.bodies 41 (cx_bodies Tryz.func41 (by kernel_rfl))
theorem has42 : HasBody Tryz.prog 42 := cP_ok.bodies 42 (cx_bodies Tryz.func42 (by kernel_rfl))
theorem has43 : HasBody Tryz.prog 43 := cP_ok.bodies 43 (cx_bodies Tryz.func43 (by kernel_rfl))
theorem has44 : HasBody Tryz.prog 44 := cP_ok.bodies 44 (cx_bodies Tryz.func44 (by kernel_rfl))
theorem has45 : HasBody Tryz.prog 45 := cP_ok.bodies 45 (cx_bodies Tryz.func45 (by kernel_rfl))
theorem has46 : HasBody Tryz.prog 46 := cP_ok.bodies 46 (cx_bodies Tryz.func46 (by kernel_rfl))
theorem has47 : HasBody Tryz.prog 47 := cP_ok.bodies 47 (cx_bodies Tryz.func47 (by kernel_rfl))
theorem has48 : HasBody Tryz.prog 48 := cP_ok.bodies 48 (cx_bodies Tryz.func48 (by kernel_rfl))
theorem has49 : HasBody Tryz.prog 49 := cP_ok.bodies 49 (cx_bodies Tryz.func49 (by kernel_rfl))
theorem has50 : HasBody Tryz.prog 50 := cP_ok.bodies 50 (cx_bodies Tryz.func50 (by kernel_rfl))
theorem has51 : HasBody Tryz.prog 51 := cP_ok.bodies 51 (cx_bodies Tryz.func51 (by kernel_rfl))
theorem has52 : HasBody Tryz.prog 52 := cP_ok.bodies 52 (cx_bodies Tryz.func52 (by kernel_rfl))
theorem has53 : HasBody Tryz.prog 53 := cP_ok.bodies 53 (cx_bodies Tryz.func53 (by kernel_rfl))
theorem has54 : HasBody Tryz.prog 54 := cP_ok.bodies 54 (cx_bodies Tryz.func54 (by kernel_rfl))
theorem has55 : HasBody Tryz.prog 55 := cP_ok.bodies 55 (cx_bodies Tryz.func55 (by kernel_rfl))
theorem has56 : HasBody Tryz.prog 56 := cP_ok.bodies 56 (cx_bodies Tryz.func56 (by kernel_rfl))
theorem has57 : HasBody Tryz.prog 57 := cP_ok.bodies 57 (cx_bodies Tryz.func57 (by kernel_rfl))
theorem has58 : HasBody Tryz.prog 58 := cP_ok.bodies 58 (cx_bodies Tryz.func58 (by kernel_rfl))
theorem has59 : HasBody Tryz.prog 59 := cP_ok.bodies 59 (cx_bodies Tryz.func59 (by kernel_rfl))
theorem has60 : HasBody Tryz.prog 60 := cP_ok.bodies 60 (cx_bodies Tryz.func60 (by kernel_rfl))
theorem has61 : HasBody Tryz.prog 61 := cP_ok.bodies 61 (cx_bodies Tryz.func61 (by kernel_rfl))
theorem has62 : HasBody Tryz.prog 62 := cP_ok.bodies 62 (cx_bodies Tryz.func62 (by kernel_rfl))
theorem has63 : HasBody Tryz.prog 63 := cP_ok.bodies 63 (cx_bodies Tryz.func63 (by kernel_rfl))
theorem has64 : HasBody Tryz.prog 64 := cP_ok.bodies 64 (cx_bodies Tryz.func64 (by kernel_rfl))
theorem has65 : HasBody Tryz.prog 65 := cP_ok.bodies 65 (cx_bodies Tryz.func65 (by kernel_rfl))
theorem has66 : HasBody Tryz.prog 66 := cP_ok.bodies 66 (cx_bodies Tryz.func66 (by kernel_rfl))
theorem has67 : HasBody Tryz.prog 67 := cP_ok.bodies 67 (cx_bodies Tryz.func67 (by kernel_rfl))
theorem has68 : HasBody Tryz.prog 68 := cP_ok.bodies 68 (cx_bodies Tryz.func68 (by kernel_rfl))
theorem has69 : HasBody Tryz.prog 69 := cP_ok.bodies 69 (cx_bodies Tryz.func69 (by kernel_rfl))
theorem has70 : HasBody Tryz.prog 70 := cP_ok.bodies 70 (cx_bodies Tryz.func70 (by kernel_rfl))
theorem has71 : HasBody Tryz.prog 71 := cP_ok.bodies 71 (cx_bodies Tryz.func71 (by kernel_rfl))
theorem has72 : HasBody Tryz.prog 72 := cP_ok.bodies 72 (cx_bodies Tryz.func72 (by kernel_rfl))
theorem has73 : HasBody Tryz.prog 73 := cP_ok.bodies 73 (cx_bodies Tryz.func73 (by kernel_rfl))
theorem has74 : HasBody Tryz.prog 74 := cP_ok.bodies 74 (cx_bodies Tryz.func74 (by kernel_rfl))
theorem has75 : HasBody Tryz.prog 75 := cP_ok.bodies 75 (cx_bodies Tryz.func75 (by kernel_rfl))
theorem has76 : HasBody Tryz.prog 76 := cP_ok.bodies 76 (cx_bodies Tryz.func76 (by kernel_rfl))
theorem has77 : HasBody Tryz.prog 77 := cP_ok.bodies 77 (cx_bodies Tryz.func77 (by kernel_rfl))
theorem has78 : HasBody Tryz.prog 78 := cP_ok.bodies 78 (cx_bodies Tryz.func78 (by kernel_rfl))
theorem has79 : HasBody Tryz.prog 79 := cP_ok.bodies 79 (cx_bodies Tryz.func79 (by kernel_rfl))
theorem has80 : HasBody Tryz.prog 80 := cP_ok.bodies 80 (cx_bodies Tryz.func80 (by kernel_rfl))
theorem has81 : HasBody Tryz.prog 81 := cP_ok.bodies 81 (cx_bodies Tryz.func81 (by kernel_rfl))
theorem has82 : HasBody Tryz.prog 82 := cP_ok.bodies 82 (cx_bodies Tryz.func82 (by kernel_rfl))
theorem has83 : HasBody Tryz.prog 83 := cP_ok.bodies 83 (cx_bodies Tryz.func83 (by kernel_rfl))
theorem has84 : HasBody Tryz.prog 84 := cP_ok.bodies 84 (cx_bodies Tryz.func84 (by kernel_rfl))
theorem has85 : HasBody Tryz.prog 85 := cP_ok.bodies 85 (cx_bodies Tryz.func85 (by kernel_rfl))
theorem has86 : HasBody Tryz.prog 86 := cP_ok.bodies 86 (cx_bodies Tryz.func86 (by kernel_rfl))
theorem has87 : HasBody Tryz.prog 87 := cP_ok.bodies 87 (cx_bodies Tryz.func87 (by kernel_rfl))
theorem has88 : HasBody Tryz.prog 88 := cP_ok.bodies 88 (cx_bodies Tryz.func88 (by kernel_rfl))
theorem has89 : HasBody Tryz.prog 89 := cP_ok.bodies 89 (cx_bodies Tryz.func89 (by kernel_rfl))
theorem has90 : HasBody Tryz.prog 90 := cP_ok.bodies 90 (cx_bodies Tryz.func90 (by kernel_rfl))
theorem has91 : HasBody Tryz.prog 91 := cP_ok.bodies 91 (cx_bodies Tryz.func91 (by kernel_rfl))
theorem has92 : HasBody Tryz.prog 92 := cP_ok.bodies 92 (cx_bodies Tryz.func92 (by kernel_rfl))
theorem has93 : HasBody Tryz.prog 93 := cP_ok.bodies 93 (cx_bodies Tryz.func93 (by kernel_rfl))
theorem has94 : HasBody Tryz.prog 94 := cP_ok.bodies 94 (cx_bodies Tryz.func94 (by kernel_rfl))
theorem has95 : HasBody Tryz.prog 95 := cP_ok.bodies 95 (cx_bodies Tryz.func95 (by kernel_rfl))
theorem has96 : HasBody Tryz.prog 96 := cP_ok.bodies 96 (cx_bodies Tryz.func96 (by kernel_rfl))
theorem has97 : HasBody Tryz.prog 97 := cP_ok.bodies 97 (cx_bodies Tryz.func97 (by kernel_rfl))
theorem has98 : HasBody Tryz.prog 98 := cP_ok.bodies 98 (cx_bodies Tryz.func98 (by kernel_rfl))
theorem has99 : HasBody Tryz.prog 99 := cP_ok.bodies 99 (cx_bodies Tryz.func99 (by kernel_rfl))
theorem has100 : HasBody Tryz.prog 100 := cP_ok.bodies 100 (cx_bodies Tryz.func100 (by kernel_rfl))
theorem has101 : HasBody Tryz.prog 101 := cP_ok.bodies 101 (cx_bodies Tryz.func101 (by kernel_rfl))
theorem has102 : HasBody Tryz.prog 102 := cP_ok.bodies 102 (cx_bodies Tryz.func102 (by kernel_rfl))
theorem has103 : HasBody Tryz.prog 103 := cP_ok.bodies 103 (cx_bodies Tryz.func103 (by kernel_rfl))
theorem has104 : HasBody Tryz.prog 104 := cP_ok.bodies 104 (cx_bodies Tryz.func104 (by kernel_rfl))
theorem has105 : HasBody Tryz.prog 105 := cP_ok.bodies 105 (cx_bodies Tryz.func105 (by kernel_rfl))
theorem has106 : HasBody Tryz.prog 106 := cP_ok.bodies 106 (cx_bodies Tryz.func106 (by kernel_rfl))
theorem has107 : HasBody Tryz.prog 107 := cP_ok.bodies 107 (cx_bodies Tryz.func107 (by kernel_rfl))
theorem has108 : HasBody Tryz.prog 108 := cP_ok.bodies 108 (cx_bodies Tryz.func108 (by kernel_rfl))
theorem has109 : HasBody Tryz.prog 109 := cP_ok.bodies 109 (cx_bodies Tryz.func109 (by kernel_rfl))
theorem has110 : HasBody Tryz.prog 110 := cP_ok.bodies 110 (cx_bodies Tryz.func110 (by kernel_rfl))
theorem has111 : HasBody Tryz.prog 111 := cP_ok.bodies 111 (cx_bodies Tryz.func111 (by kernel_rfl))
theorem has112 : HasBody Tryz.prog 112 := cP_ok.bodies 112 (cx_bodies Tryz.func112 (by kernel_rfl))
theorem has113 : HasBody Tryz.prog 113 := cP_ok.bodies 113 (cx_bodies Tryz.func113 (by kernel_rfl))
theorem has114 : HasBody Tryz.prog 114 := cP_ok.bodies 114 (cx_bodies Tryz.func114 (by kernel_rfl))
theorem has115 : HasBody Tryz.prog 115 := cP_ok.bodies 115 (cx_bodies Tryz.func115 (by kernel_rfl))
theorem has116 : HasBody Tryz.prog 116 := cP_ok.bodies 116 (cx_bodies Tryz.func116 (by kernel_rfl))
theorem has117 : HasBody Tryz.prog 117 := cP_ok.bodies 117 (cx_bodies Tryz.func117 (by kernel_rfl))
theorem has118 : HasBody Tryz.prog 118 := cP_ok.bodies 118 (cx_bodies Tryz.func118 (by kernel_rfl))
theorem has119 : HasBody Tryz.prog 119 := cP_ok.bodies 119 (cx_bodies Tryz.func119 (by kernel_rfl))
theorem has120 : HasBody Tryz.prog 120 := cP_ok.bodies 120 (cx_bodies Tryz.func120 (by kernel_rfl))
theorem has121 : HasBody Tryz.prog 121 := cP_ok.bodies 121 (cx_bodies Tryz.func121 (by kernel_rfl))
theorem has125 : HasBody Tryz.prog 125 := cP_ok.bodies 125 (cx_bodies Tryz.func125 (by kernel_rfl))
theorem has126 : HasBody Tryz.prog 126 := cP_ok.bodies 126 (cx_bodies Tryz.func126 (by kernel_rfl))
theorem has127 : HasBody Tryz.prog 127 := cP_ok.bodies 127 (cx_bodies Tryz.func127 (by kernel_rfl))
theorem has128 : HasBody Tryz.prog 128 := cP_ok.bodies 128 (cx_bodies Tryz.func128 (by kernel_rfl))
theorem has129 : HasBody Tryz.prog 129 := cP_ok.bodies 129 (cx_bodies Tryz.func129 (by kernel_rfl))
theorem has130 : HasBody Tryz.prog 130 := cP_ok.bodies 130 (cx_bodies Tryz.func130 (by kernel_rfl))
theorem has131 : HasBody Tryz.prog 131 := cP_ok.bodies 131 (cx_bodies Tryz.func131 (by kernel_rfl))
theorem has132 : HasBody Tryz.prog 132 := cP_ok.bodies 132 (cx_bodies Tryz.func132 (by kernel_rfl))
theorem has133 : HasBody Tryz.prog 133 := cP_ok.bodies 133 (cx_bodies Tryz.func133 (by kernel_rfl))
theorem has134 : HasBody Tryz.prog 134 := cP_ok.bodies 134 (cx_bodies Tryz.func134 (by kernel_rfl))
theorem has135 : HasBody Tryz.prog 135 := cP_ok.bodies 135 (cx_bodies Tryz.func135 (by kernel_rfl))
theorem has136 : HasBody Tryz.prog 136 := cP_ok.bodies 136 (cx_bodies Tryz.func136 (by kernel_rfl))
theorem has137 : HasBody Tryz.prog 137 := cP_ok.bodies 137 (cx_bodies Tryz.func137 (by kernel_rfl))
theorem has138 : HasBody Tryz.prog 138 := cP_ok.bodies 138 (cx_bodies Tryz.func138 (by kernel_rfl))
theorem has139 : HasBody Tryz.prog 139 := cP_ok.bodies 139 (cx_bodies Tryz.func139 (by kernel_rfl))
theorem has140 : HasBody Tryz.prog 140 := cP_ok.bodies 140 (cx_bodies Tryz.func140 (by kernel_rfl))
theorem has141 : HasBody Tryz.prog 141 := cP_ok.bodies 141 (cx_bodies Tryz.func141 (by kernel_rfl))
theorem has142 : HasBody Tryz.prog 142 := cP_ok.bodies 142 (cx_bodies Tryz.func142 (by kernel_rfl))
theorem has143 : HasBody Tryz.prog 143 := cP_ok.bodies 143 (cx_bodies Tryz.func143 (by kernel_rfl))
theorem has144 : HasBody Tryz.prog 144 := cP_ok.bodies 144 (cx_bodies Tryz.func144 (by kernel_rfl))
theorem has145 : HasBody Tryz.prog 145 := cP_ok.bodies 145 (cx_bodies Tryz.func145 (by kernel_rfl))
theorem has146 : HasBody Tryz.prog 146 := cP_ok.bodies 146 (cx_bodies Tryz.func146 (by kernel_rfl))
theorem has147 : HasBody Tryz.prog 147 := cP_ok.bodies 147 (cx_bodies Tryz.func147 (by kernel_rfl))
theorem has148 : HasBody Tryz.prog 148 := cP_ok.bodies 148 (cx_bodies Tryz.func148 (by kernel_rfl))
theorem has149 : HasBody Tryz.prog 149 := cP_ok.bodies 149 (cx_bodies Tryz.func149 (by kernel_rfl))
theorem has150 : HasBody Tryz.prog 150 := cP_ok.bodies 150 (cx_bodies Tryz.func150 (by kernel_rfl))
theorem has151 : HasBody Tryz.prog 151 := cP_ok.bodies 151 (cx_bodies Tryz.func151 (by kernel_rfl))
theorem has152 : HasBody Tryz.prog 152 := cP_ok.bodies 152 (cx_bodies Tryz.func152 (by kernel_rfl))
theorem has153 : HasBody Tryz.prog 153 := cP_ok.bodies 153 (cx_bodies Tryz.func153 (by kernel_rfl))
theorem has154 : HasBody Tryz.prog 154 := cP_ok.bodies 154 (cx_bodies Tryz.func154 (by kernel_rfl))
theorem has155 : HasBody Tryz.prog 155 := cP_ok.bodies 155 (cx_bodies Tryz.func155 (by kernel_rfl))
theorem has156 : HasBody Tryz.prog 156 := cP_ok.bodies 156 (cx_bodies Tryz.func156 (by kernel_rfl))
theorem has157 : HasBody Tryz.prog 157 := cP_ok.bodies 157 (cx_bodies Tryz.func157 (by kernel_rfl))
theorem has158 : HasBody Tryz.prog 158 := cP_ok.bodies 158 (cx_bodies Tryz.func158 (by kernel_rfl))
theorem has159 : HasBody Tryz.prog 159 := cP_ok.bodies 159 (cx_bodies Tryz.func159 (by kernel_rfl))
theorem has160 : HasBody Tryz.prog 160 := cP_ok.bodies 160 (cx_bodies Tryz.func160 (by kernel_rfl))
theorem has161 : HasBody Tryz.prog 161 := cP_ok.bodies 161 (cx_bodies Tryz.func161 (by kernel_rfl))
theorem has162 : HasBody Tryz.prog 162 := cP_ok.bodies 162 (cx_bodies Tryz.func162 (by kernel_rfl))
theorem has163 : HasBody Tryz.prog 163 := cP_ok.bodies 163 (cx_bodies Tryz.func163 (by kernel_rfl))
theorem has164 : HasBody Tryz.prog 164 := cP_ok.bodies 164 (cx_bodies Tryz.func164 (by kernel_rfl))
theorem has165 : HasBody Tryz.prog 165 := cP_ok.bodies 165 (cx_bodies Tryz.func165 (by kernel_rfl))
theorem has166 : HasBody Tryz.prog 166 := cP_ok.bodies 166 (cx_bodies Tryz.func166 (by kernel_rfl))
theorem has167 : HasBody Tryz.prog 167 := cP_ok.bodies 167 (cx_bodies Tryz.func167 (by kernel_rfl))
theorem has168 : HasBody Tryz.prog 168 := cP_ok.bodies 168 (cx_bodies Tryz.func168 (by kernel_rfl))
theorem has169 : HasBody Tryz.prog 169 := cP_ok.bodies 169 (cx_bodies Tryz.func169 (by kernel_rfl))
theorem has170 : HasBody Tryz.prog 170 := cP_ok.bodies 170 (cx_bodies Tryz.func170 (by kernel_rfl))
theorem has171 : HasBody Tryz.prog 171 := cP_ok.bodies 171 (cx_bodies Tryz.func171 (by kernel_rfl))
theorem has172 : HasBody Tryz.prog 172 := cP_ok.bodies 172 (cx_bodies Tryz.func172 (by kernel_rfl))
theorem has173 : HasBody Tryz.prog 173 := cP_ok.bodies 173 (cx_bodies Tryz.func173 (by kernel_rfl))
theorem has174 : HasBody Tryz.prog 174 := cP_ok.bodies 174 (cx_bodies Tryz.func174 (by kernel_rfl))
theorem has175 : HasBody Tryz.prog 175 := cP_ok.bodies 175 (cx_bodies Tryz.func175 (by kernel_rfl))
theorem has176 : HasBody Tryz.prog 176 := cP_ok.bodies 176 (cx_bodies Tryz.func176 (by kernel_rfl))
theorem has177 : HasBody Tryz.prog 177 := cP_ok.bodies 177 (cx_bodies Tryz.func177 (by kernel_rfl))
theorem has178 : HasBody Tryz.prog 178 := cP_ok.bodies 178 (cx_bodies Tryz.func178 (by kernel_rfl))
theorem has179 : HasBody Tryz.prog 179 := cP_ok.bodies 179 (cx_bodies Tryz.func179 (by kernel_rfl))
theorem has180 : HasBody Tryz.prog 180 := cP_ok.bodies 180 (cx_bodies Tryz.func180 (by kernel_rfl))
theorem has181 : HasBody Tryz.prog 181 := cP_ok.bodies 181 (cx_bodies Tryz.func181 (by kernel_rfl))
theorem has182 : HasBody Tryz.prog 182 := cP_ok.bodies 182 (cx_bodies Tryz.func182 (by kernel_rfl))
theorem has183 : HasBody Tryz.prog 183 := cP_ok.bodies 183 (cx_bodies Tryz.func183 (by kernel_rfl))
theorem has184 : HasBody Tryz.prog 184 := cP_ok.bodies 184 (cx_bodies Tryz.func184 (by kernel_rfl))
theorem has185 : HasBody Tryz.prog 185 := cP_ok.bodies 185 (cx_bodies Tryz.func185 (by kernel_rfl))
theorem has186 : HasBody Tryz.prog 186 := cP_ok.bodies 186 (cx_bodies Tryz.func186 (by kernel_rfl))
theorem has187 : HasBody Tryz.prog 187 := cP_ok.bodies 187 (cx_bodies Tryz.func187 (by kernel_rfl))
theorem has189 : HasBody Tryz.prog 189 := cP_ok.bodies 189 (cx_bodies Tryz.func189 (by kernel_rfl))
theorem has190 : HasBody Tryz.prog 190 := cP_ok.bodies 190 (cx_bodies Tryz.func190 (by kernel_rfl))
theorem has191 : HasBody Tryz.prog 191 := cP_ok.bodies 191 (cx_bodies Tryz.func191 (by kernel_rfl))
theorem has192 : HasBody Tryz.prog 192 := cP_ok.bodies 192 (cx_bodies Tryz.func192 (by kernel_rfl))
theorem has193 : HasBody Tryz.prog 193 := cP_ok.bodies 193 (cx_bodies Tryz.func193 (by kernel_rfl))
theorem has194 : HasBody Tryz.prog 194 := cP_ok.bodies 194 (cx_bodies Tryz.func194 (by kernel_rfl))
theorem has195 : HasBody Tryz.prog 195 := cP_ok.bodies 195 (cx_bodies Tryz.func195 (by kernel_rfl))
theorem has196 : HasBody Tryz.prog 196 := cP_ok.bodies 196 (cx_bodies Tryz.func196 (by kernel_rfl))
theorem has197 : HasBody Tryz.prog 197 := cP_ok.bodies 197 (cx_bodies Tryz.func197 (by kernel_rfl))
theorem has198 : HasBody Tryz.prog 198 := cP_ok.bodies 198 (cx_bodies Tryz.func198 (by kernel_rfl))
theorem has199 : HasBody Tryz.prog 199 := cP_ok.bodies 199 (cx_bodies Tryz.func199 (by kernel_rfl))
theorem has200 : HasBody Tryz.prog 200 := cP_ok.bodies 200 (cx_bodies Tryz.func200 (by kernel_rfl))
theorem has201 : HasBody Tryz.prog 201 := cP_ok.bodies 201 (cx_bodies Tryz.func201 (by kernel_rfl))
theorem has202 : HasBody Tryz.prog 202 := cP_ok.bodies 202 (cx_bodies Tryz.func202 (by kernel_rfl))
theorem has203 : HasBody Tryz.prog 203 := cP_ok.bodies 203 (cx_bodies Tryz.func203 (by kernel_rfl))
theorem has204 : HasBody Tryz.prog 204 := cP_ok.bodies 204 (cx_bodies Tryz.func204 (by kernel_rfl))
theorem has205 : HasBody Tryz.prog 205 := cP_ok.bodies 205 (cx_bodies Tryz.func205 (by kernel_rfl))
theorem has206 : HasBody Tryz.prog 206 := cP_ok.bodies 206 (cx_bodies Tryz.func206 (by kernel_rfl))
theorem has207 : HasBody Tryz.prog 207 := cP_ok.bodies 207 (cx_bodies Tryz.func207 (by kernel_rfl))
theorem has208 : HasBody Tryz.prog 208 := cP_ok.bodies 208 (cx_bodies Tryz.func208 (by kernel_rfl))
theorem has209 : HasBody Tryz.prog 209 := cP_ok.bodies 209 (cx_bodies Tryz.func209 (by kernel_rfl))
theorem has210 : HasBody Tryz.prog 210 := cP_ok.bodies 210 (cx_bodies Tryz.func210 (by kernel_rfl))
theorem has211 : HasBody Tryz.prog 211 := cP_ok.bodies 211 (cx_bodies Tryz.func211 (by kernel_rfl))
theorem has212 : HasBody Tryz.prog 212 := cP_ok.bodies 212 (cx_bodies Tryz.func212 (by kernel_rfl))
theorem has213 : HasBody Tryz.prog 213 := cP_ok.bodies 213 (cx_bodies Tryz.func213 (by kernel_rfl))
theorem has214 : HasBody Tryz.prog 214 := cP_ok.bodies 214 (cx_bodies Tryz.func214 (by kernel_rfl))
theorem has215 : HasBody Tryz.prog 215 := cP_ok.bodies 215 (cx_bodies Tryz.func215 (by kernel_rfl))
theorem has216 : HasBody Tryz.prog 216 := cP_ok.bodies 216 (cx_bodies Tryz.func216 (by kernel_rfl))
theorem has217 : HasBody Tryz.prog 217 := cP_ok.bodies 217 (cx_bodies Tryz.func217 (by kernel_rfl))
theorem has218 : HasBody Tryz.prog 218 := cP_ok.bodies 218 (cx_bodies Tryz.func218 (by kernel_rfl))
theorem has219 : HasBody Tryz.prog 219 := cP_ok.bodies 219 (cx_bodies Tryz.func219 (by kernel_rfl))
theorem has220 : HasBody Tryz.prog 220 := cP_ok.bodies 220 (cx_bodies Tryz.func220 (by kernel_rfl))
theorem has221 : HasBody Tryz.prog 221 := cP_ok.bodies 221 (cx_bodies Tryz.func221 (by kernel_rfl))
theorem has222 : HasBody Tryz.prog 222 := cP_ok.bodies 222 (cx_bodies Tryz.func222 (by kernel_rfl))
theorem has223 : HasBody Tryz.prog 223 := cP_ok.bodies 223 (cx_bodies Tryz.func223 (by kernel_rfl))
theorem has224 : HasBody Tryz.prog 224 := cP_ok.bodies 224 (cx_bodies Tryz.func224 (by kernel_rfl))
theorem has225 : HasBody Tryz.prog 225 := cP_ok.bodies 225 (cx_bodies Tryz.func225 (by kernel_rfl))
theorem has226 : HasBody Tryz.prog 226 := cP_ok.bodies 226 (cx_bodies Tryz.func226 (by kernel_rfl))
theorem has227 : HasBody Tryz.prog 227 := cP_ok.bodies 227 (cx_bodies Tryz.func227 (by kernel_rfl))
theorem has228 : HasBody Tryz.prog 228 := cP_ok.bodies 228 (cx_bodies Tryz.func228 (by kernel_rfl))
theorem has229 : HasBody Tryz.prog 229 := cP_ok.bodies 229 (cx_bodies Tryz.func229 (by kernel_rfl))
theorem has230 : HasBody Tryz.prog 230 := cP_ok.bodies 230 (cx_bodies Tryz.func230 (by kernel_rfl))
theorem has231 : HasBody Tryz.prog 231 := cP_ok.bodies 231 (cx_bodies Tryz.func231 (by kernel_rfl))
theorem has232 : HasBody Tryz.prog 232 := cP_ok.bodies 232 (cx_bodies Tryz.func232 (by kernel_rfl))
theorem has233 : HasBody Tryz.prog 233 := cP_ok.bodies 233 (cx_bodies Tryz.func233 (by kernel_rfl))
theorem has234 : HasBody Tryz.prog 234 := cP_ok.bodies 234 (cx_bodies Tryz.func234 (by kernel_rfl))
theorem has235 : HasBody Tryz.prog 235 := cP_ok.bodies 235 (cx_bodies Tryz.func235 (by kernel_rfl))
theorem has236 : HasBody Tryz.prog 236 := cP_ok.bodies 236 (cx_bodies Tryz.func236 (by kernel_rfl))
theorem has237 : HasBody Tryz.prog 237 := cP_ok.bodies 237 (cx_bodies Tryz.func237 (by kernel_rfl))
theorem has238 : HasBody Tryz.prog 238 := cP_ok.bodies 238 (cx_bodies Tryz.func238 (by kernel_rfl))
theorem has239 : HasBody Tryz.prog 239 := cP_ok.bodies 239 (cx_bodies Tryz.func239 (by kernel_rfl))
theorem has240 : HasBody Tryz.prog 240 := cP_ok.bodies 240 (cx_bodies Tryz.func240 (by kernel_rfl))
theorem has241 : HasBody Tryz.prog 241 := cP_ok.bodies 241 (cx_bodies Tryz.func241 (by kernel_rfl))
theorem has242 : HasBody Tryz.prog 242 := cP_ok.bodies 242 (cx_bodies Tryz.func242 (by kernel_rfl))
theorem has243 : HasBody Tryz.prog 243 := cP_ok.bodies 243 (cx_bodies Tryz.func243 (by kernel_rfl))
theorem has244 : HasBody Tryz.prog 244 := cP_ok.bodies 244 (cx_bodies Tryz.func244 (by kernel_rfl))
theorem has245 : HasBody Tryz.prog 245 := cP_ok.bodies 245 (cx_bodies Tryz.func245 (by kernel_rfl))
theorem has246 : HasBody Tryz.prog 246 := cP_ok.bodies 246 (cx_bodies Tryz.func246 (by kernel_rfl))
theorem has247 : HasBody Tryz.prog 247 := cP_ok.bodies 247 (cx_bodies Tryz.func247 (by kernel_rfl))
theorem has248 : HasBody Tryz.prog 248 := cP_ok.bodies 248 (cx_bodies Tryz.func248 (by kernel_rfl))
theorem has249 : HasBody Tryz.prog 249 := cP_ok.bodies 249 (cx_bodies Tryz.func249 (by kernel_rfl))
theorem has250 : HasBody Tryz.prog 250 := cP_ok.bodies 250 (cx_bodies Tryz.func250 (by kernel_rfl))
theorem has251 : HasBody Tryz.prog 251 := cP_ok.bodies 251 (cx_bodies Tryz.func251 (by kernel_rfl))
theorem has252 : HasBody Tryz.prog 252 := cP_ok.bodies 252 (cx_bodies Tryz.func252 (by kernel_rfl))
theorem has253 : HasBody Tryz.prog 253 := cP_ok.bodies 253 (cx_bodies Tryz.func253 (by kernel_rfl))
theorem has254 : HasBody Tryz.prog 254 := cP_ok.bodies 254 (cx_bodies Tryz.func254 (by kernel_rfl))
theorem has255 : HasBody Tryz.prog 255 := cP_ok.bodies 255 (cx_bodies Tryz.func255 (by kernel_rfl))
theorem has256 : HasBody Tryz.prog 256 := cP_ok.bodies 256 (cx_bodies Tryz.func256 (by kernel_rfl))
theorem has257 : HasBody Tryz.prog 257 := cP_ok.bodies 257 (cx_bodies Tryz.func257 (by kernel_rfl))
theorem has258 : HasBody Tryz.prog 258 := cP_ok.bodies 258 (cx_bodies Tryz.func258 (by kernel_rfl))
theorem has259 : HasBody Tryz.prog 259 := cP_ok.bodies 259 (cx_bodies Tryz.func259 (by kernel_rfl))
theorem has260 : HasBody Tryz.prog 260 := cP_ok.bodies 260 (cx_bodies Tryz.func260 (by kernel_rfl))
theorem has261 : HasBody Tryz.prog 261 := cP_ok.bodies 261 (cx_bodies Tryz.func261 (by kernel_rfl))
theorem has262 : HasBody Tryz.prog 262 := cP_ok.bodies 262 (cx_bodies Tryz.func262 (by kernel_rfl))
theorem has263 : HasBody Tryz.prog 263 := cP_ok.bodies 263 (cx_bodies Tryz.func263 (by kernel_rfl))
theorem has264 : HasBody Tryz.prog 264 := cP_ok.bodies 264 (cx_bodies Tryz.func264 (by kernel_rfl))
theorem has265 : HasBody Tryz.prog 265 := cP_ok.bodies 265 (cx_bodies Tryz.func265 (by kernel_rfl))
theorem has266 : HasBody Tryz.prog 266 := cP_ok.bodies 266 (cx_bodies Tryz.func266 (by kernel_rfl))
theorem has267 : HasBody Tryz.prog 267 := cP_ok.bodies 267 (cx_bodies Tryz.func267 (by kernel_rfl))
theorem has268 : HasBody Tryz.prog 268 := cP_ok.bodies 268 (cx_bodies Tryz.func268 (by kernel_rfl))
theorem has269 : HasBody Tryz.prog 269 := cP_ok.bodies 269 (cx_bodies Tryz.func269 (by kernel_rfl))
theorem has270 : HasBody Tryz.prog 270 := cP_ok.bodies 270 (cx_bodies Tryz.func270 (by kernel_rfl))
theorem has271 : HasBody Tryz.prog 271 := cP_ok.bodies 271 (cx_bodies Tryz.func271 (by kernel_rfl))
theorem has272 : HasBody Tryz.prog 272 := cP_ok.bodies 272 (cx_bodies Tryz.func272 (by kernel_rfl))
theorem has273 : HasBody Tryz.prog 273 := cP_ok.bodies 273 (cx_bodies Tryz.func273 (by kernel_rfl))
theorem has274 : HasBody Tryz.prog 274 := cP_ok.bodies 274 (cx_bodies Tryz.func274 (by kernel_rfl))
theorem has275 : HasBody Tryz.prog 275 := cP_ok.bodies 275 (cx_bodies Tryz.func275 (by kernel_rfl))
theorem has276 : HasBody Tryz.prog 276 := cP_ok.bodies 276 (cx_bodies Tryz.func276 (by kernel_rfl))
theorem has277 : HasBody Tryz.prog 277 := cP_ok.bodies 277 (cx_bodies Tryz.func277 (by kernel_rfl))
theorem has278 : HasBody Tryz.prog 278 := cP_ok.bodies 278 (cx_bodies Tryz.func278 (by kernel_rfl))
theorem has279 : HasBody Tryz.prog 279 := cP_ok.bodies 279 (cx_bodies Tryz.func279 (by kernel_rfl))
theorem has280 : HasBody Tryz.prog 280 := cP_ok.bodies 280 (cx_bodies Tryz.func280 (by kernel_rfl))
theorem has281 : HasBody Tryz.prog 281 := cP_ok.bodies 281 (cx_bodies Tryz.func281 (by kernel_rfl))
theorem has282 : HasBody Tryz.prog 282 := cP_ok.bodies 282 (cx_bodies Tryz.func282 (by kernel_rfl))
theorem has283 : HasBody Tryz.prog 283 := cP_ok.bodies 283 (cx_bodies Tryz.func283 (by kernel_rfl))
theorem has284 : HasBody Tryz.prog 284 := cP_ok.bodies 284 (cx_bodies Tryz.func284 (by kernel_rfl))
theorem has285 : HasBody Tryz.prog 285 := cP_ok.bodies 285 (cx_bodies Tryz.func285 (by kernel_rfl))
theorem has286 : HasBody Tryz.prog 286 := cP_ok.bodies 286 (cx_bodies Tryz.func286 (by kernel_rfl))
theorem has287 : HasBody Tryz.prog 287 := cP_ok.bodies 287 (cx_bodies Tryz.func287 (by kernel_rfl))
theorem has288 : HasBody Tryz.prog 288 := cP_ok.bodies 288 (cx_bodies Tryz.func288 (by kernel_rfl))
theorem has289 : HasBody Tryz.prog 289 := cP_ok.bodies 289 (cx_bodies Tryz.func289 (by kernel_rfl))
theorem has290 : HasBody Tryz.prog 290 := cP_ok.bodies 290 (cx_bodies Tryz.func290 (by kernel_rfl))
theorem has291 : HasBody Tryz.prog 291 := cP_ok.bodies 291 (cx_bodies Tryz.func291 (by kernel_rfl))
theorem has292 : HasBody Tryz.prog 292 := cP_ok.bodies 292 (cx_bodies Tryz.func292 (by kernel_rfl))
theorem has293 : HasBody Tryz.prog 293 := cP_ok.bodies 293 (cx_bodies Tryz.func293 (by kernel_rfl))
theorem has294 : HasBody Tryz.prog 294 := cP_ok.bodies 294 (cx_bodies Tryz.func294 (by kernel_rfl))
theorem has295 : HasBody Tryz.prog 295 := cP_ok.bodies 295 (cx_bodies Tryz.func295 (by kernel_rfl))
theorem has296 : HasBody Tryz.prog 296 := cP_ok.bodies 296 (cx_bodies Tryz.func296 (by kernel_rfl))
theorem has297 : HasBody Tryz.prog 297 := cP_ok.bodies 297 (cx_bodies Tryz.func297 (by kernel_rfl))
theorem has298 : HasBody Tryz.prog 298 := cP_ok.bodies 298 (cx_bodies Tryz.func298 (by kernel_rfl))
theorem has299 : HasBody Tryz.prog 299 := cP_ok.bodies 299 (cx_bodies Tryz.func299 (by kernel_rfl))
theorem has300 : HasBody Tryz.prog 300 := cP_ok.bodies 300 (cx_bodies Tryz.func300 (by kernel_rfl))
theorem has301 : HasBody Tryz.prog 301 := cP_ok.bodies 301 (cx_bodies Tryz.func301 (by kernel_rfl))
theorem has302 : HasBody Tryz.prog 302 := cP_ok.bodies 302 (cx_bodies Tryz.func302 (by kernel_rfl))
theorem has303 : HasBody Tryz.prog 303 := cP_ok.bodies 303 (cx_bodies Tryz.func303 (by kernel_rfl))
theorem has304 : HasBody Tryz.prog 304 := cP_ok.bodies 304 (cx_bodies Tryz.func304 (by kernel_rfl))
theorem has305 : HasBody Tryz.prog 305 := cP_ok.bodies 305 (cx_bodies Tryz.func305 (by kernel_rfl))
theorem has306 : HasBody Tryz.prog 306 := cP_ok.bodies 306 (cx_bodies Tryz.func306 (by kernel_rfl))
theorem has307 : HasBody Tryz.prog 307 := cP_ok.bodies 307 (cx_bodies Tryz.func307 (by kernel_rfl))
theorem has308 : HasBody Tryz.prog 308 := cP_ok.bodies 308 (cx_bodies Tryz.func308 (by kernel_rfl))
theorem has309 : HasBody Tryz.prog 309 := cP_ok.bodies 309 (cx_bodies Tryz.func309 (by kernel_rfl))
theorem has310 : HasBody Tryz.prog 310 := cP_ok.bodies 310 (cx_bodies Tryz.func310 (by kernel_rfl))
theorem has311 : HasBody Tryz.prog 311 := cP_ok.bodies 311 (cx_bodies Tryz.func311 (by kernel_rfl))
theorem has312 : HasBody Tryz.prog 312 := cP_ok.bodies 312 (cx_bodies Tryz.func312 (by kernel_rfl))
theorem has313 : HasBody Tryz.prog 313 := cP_ok.bodies 313 (cx_bodies Tryz.func313 (by kernel_rfl))
theorem has314 : HasBody Tryz.prog 314 := cP_ok.bodies 314 (cx_bodies Tryz.func314 (by kernel_rfl))
theorem has315 : HasBody Tryz.prog 315 := cP_ok.bodies 315 (cx_bodies Tryz.func315 (by kernel_rfl))
theorem has316 : HasBody Tryz.prog 316 := cP_ok.bodies 316 (cx_bodies Tryz.func316 (by kernel_rfl))
theorem has317 : HasBody Tryz.prog 317 := cP_ok.bodies 317 (cx_bodies Tryz.func317 (by kernel_rfl))
theorem has318 : HasBody Tryz.prog 318 := cP_ok.bodies 318 (cx_bodies Tryz.func318 (by kernel_rfl))
theorem has320 : HasBody Tryz.prog 320 := cP_ok.bodies 320 (cx_bodies Tryz.func320 (by kernel_rfl))
theorem has321 : HasBody Tryz.prog 321 := cP_ok.bodies 321 (cx_bodies Tryz.func321 (by kernel_rfl))
theorem has322 : HasBody Tryz.prog 322 := cP_ok.bodies 322 (cx_bodies Tryz.func322 (by kernel_rfl))
theorem has323 : HasBody Tryz.prog 323 := cP_ok.bodies 323 (cx_bodies Tryz.func323 (by kernel_rfl))
theorem has324 : HasBody Tryz.prog 324 := cP_ok.bodies 324 (cx_bodies Tryz.func324 (by kernel_rfl))
theorem has325 : HasBody Tryz.prog 325 := cP_ok.bodies 325 (cx_bodies Tryz.func325 (by kernel_rfl))
theorem has326 : HasBody Tryz.prog 326 := cP_ok.bodies 326 (cx_bodies Tryz.func326 (by kernel_rfl))
theorem has327 : HasBody Tryz.prog 327 := cP_ok.bodies 327 (cx_bodies Tryz.func327 (by kernel_rfl))
theorem has328 : HasBody Tryz.prog 328 := cP_ok.bodies 328 (cx_bodies Tryz.func328 (by kernel_rfl))
theorem has329 : HasBody Tryz.prog 329 := cP_ok.bodies 329 (cx_bodies Tryz.func329 (by kernel_rfl))
theorem has330 : HasBody Tryz.prog 330 := cP_ok.bodies 330 (cx_bodies Tryz.func330 (by kernel_rfl))
theorem has331 : HasBody Tryz.prog 331 := cP_ok.bodies 331 (cx_bodies Tryz.func331 (by kernel_rfl))
theorem has332 : HasBody Tryz.prog 332 := cP_ok.bodies 332 (cx_bodies Tryz.func332 (by kernel_rfl))
theorem has333 : HasBody Tryz.prog 333 := cP_ok.bodies 333 (cx_bodies Tryz.func333 (by kernel_rfl))
theorem has334 : HasBody Tryz.prog 334 := cP_ok.bodies 334 (cx_bodies Tryz.func334 (by kernel_rfl))
theorem has335 : HasBody Tryz.prog 335 := cP_ok.bodies 335 (cx_bodies Tryz.func335 (by kernel_rfl))
theorem has336 : HasBody Tryz.prog 336 := cP_ok.bodies 336 (cx_bodies Tryz.func336 (by kernel_rfl))
theorem has337 : HasBody Tryz.prog 337 := cP_ok.bodies 337 (cx_bodies Tryz.func337 (by kernel_rfl))
theorem has338 : HasBody Tryz.prog 338 := cP_ok.bodies 338 (cx_bodies Tryz.func338 (by kernel_rfl))
theorem has339 : HasBody Tryz.prog 339 := cP_ok.bodies 339 (cx_bodies Tryz.func339 (by kernel_rfl))
theorem has340 : HasBody Tryz.prog 340 := cP_ok.bodies 340 (cx_bodies Tryz.func340 (by kernel_rfl))
theorem has341 : HasBody Tryz.prog 341 := cP_ok.bodies 341 (cx_bodies Tryz.func341 (by kernel_rfl))
theorem has342 : HasBody Tryz.prog 342 := cP_ok.bodies 342 (cx_bodies Tryz.func342 (by kernel_rfl))
theorem has343 : HasBody Tryz.prog 343 := cP_ok.bodies 343 (cx_bodies Tryz.func343 (by kernel_rfl))
theorem has344 : HasBody Tryz.prog 344 := cP_ok.bodies 344 (cx_bodies Tryz.func344 (by kernel_rfl))
theorem has345 : HasBody Tryz.prog 345 := cP_ok.bodies 345 (cx_bodies Tryz.func345 (by kernel_rfl))
theorem has346 : HasBody Tryz.prog 346 := cP_ok.bodies 346 (cx_bodies Tryz.func346 (by kernel_rfl))
theorem has347 : HasBody Tryz.prog 347 := cP_ok.bodies 347 (cx_bodies Tryz.func347 (by kernel_rfl))
theorem has349 : HasBody Tryz.prog 349 := cP_ok.bodies 349 (cx_bodies Tryz.func349 (by kernel_rfl))
theorem has350 : HasBody Tryz.prog 350 := cP_ok.bodies 350 (cx_bodies Tryz.func350 (by kernel_rfl))
theorem has351 : HasBody Tryz.prog 351 := cP_ok.bodies 351 (cx_bodies Tryz.func351 (by kernel_rfl))
theorem has352 : HasBody Tryz.prog 352 := cP_ok.bodies 352 (cx_bodies Tryz.func352 (by kernel_rfl))
theorem has355 : HasBody Tryz.prog 355 := cP_ok.bodies 355 (cx_bodies Tryz.func355 (by kernel_rfl))
theorem has356 : HasBody Tryz.prog 356 := cP_ok.bodies 356 (cx_bodies Tryz.func356 (by kernel_rfl))
theorem has357 : HasBody Tryz.prog 357 := cP_ok.bodies 357 (cx_bodies Tryz.func357 (by kernel_rfl))
theorem has358 : HasBody Tryz.prog 358 := cP_ok.bodies 358 (cx_bodies Tryz.func358 (by kernel_rfl))
theorem has359 : HasBody Tryz.prog 359 := cP_ok.bodies 359 (cx_bodies Tryz.func359 (by kernel_rfl))
theorem has360 : HasBody Tryz.prog 360 := cP_ok.bodies 360 (cx_bodies Tryz.func360 (by kernel_rfl))
theorem has361 : HasBody Tryz.prog 361 := cP_ok.bodies 361 (cx_bodies Tryz.func361 (by kernel_rfl))
theorem has362 : HasBody Tryz.prog 362 := cP_ok.bodies 362 (cx_bodies Tryz.func362 (by kernel_rfl))
theorem has363 : HasBody Tryz.prog 363 := cP_ok.bodies 363 (cx_bodies Tryz.func363 (by kernel_rfl))
theorem has364 : HasBody Tryz.prog 364 := cP_ok.bodies 364 (cx_bodies Tryz.func364 (by kernel_rfl))
theorem has365 : HasBody Tryz.prog 365 := cP_ok.bodies 365 (cx_bodies Tryz.func365 (by kernel_rfl))
theorem has366 : HasBody Tryz.prog 366 := cP_ok.bodies 366 (cx_bodies Tryz.func366 (by kernel_rfl))
theorem has367 : HasBody Tryz.prog 367 := cP_ok.bodies 367 (cx_bodies Tryz.func367 (by kernel_rfl))
theorem has372 : HasBody Tryz.prog 372 := cP_ok.bodies 372 (cx_bodies Tryz.func372 (by kernel_rfl))
theorem has375 : HasBody Tryz.prog 375 := cP_ok.bodies 375 (cx_bodies Tryz.func375 (by kernel_rfl))
theorem has376 : HasBody Tryz.prog 376 := cP_ok.bodies 376 (cx_bodies Tryz.func376 (by kernel_rfl))
theorem has377 : HasBody Tryz.prog 377 := cP_ok.bodies 377 (cx_bodies Tryz.func377 (by kernel_rfl))
theorem has378 : HasBody Tryz.prog 378 := cP_ok.bodies 378 (cx_bodies Tryz.func378 (by kernel_rfl))
theorem has379 : HasBody Tryz.prog 379 := cP_ok.bodies 379 (cx_bodies Tryz.func379 (by kernel_rfl))
theorem has380 : HasBody Tryz.prog 380 := cP_ok.bodies 380 (cx_bodies Tryz.func380 (by kernel_rfl))
theorem has381 : HasBody Tryz.prog 381 := cP_ok.bodies 381 (cx_bodies Tryz.func381 (by kernel_rfl))
theorem has389 : HasBody Tryz.prog 389 := cP_ok.bodies 389 (cx_bodies Tryz.func389 (by kernel_rfl))
theorem has390 : HasBody Tryz.prog 390 := cP_ok.bodies 390 (cx_bodies Tryz.func390 (by kernel_rfl))
noncomputable def row3 : FnRow Tryz.prog btAll := ⟨3, Tryz.f3, Tryz.f3.body.getD .skip, Tryz.func3, by kernel_rfl, stat3, has3⟩
noncomputable def row4 : FnRow Tryz.prog btAll := ⟨4, Tryz.f4, Tryz.f4.body.getD .skip, Tryz.func4, by kernel_rfl, stat4, has4⟩
noncomputable def row5 : FnRow Tryz.prog btAll := ⟨5, Tryz.f5, Tryz.f5.body.getD .skip, Tryz.func5, by kernel_rfl, stat5, has5⟩
noncomputable def row6 : FnRow Tryz.prog btAll := ⟨6, Tryz.f6, Tryz.f6.body.getD .skip, Tryz.func6, by kernel_rfl, stat6, has6⟩
noncomputable def row7 : FnRow Tryz.prog btAll := ⟨7, Tryz.f7, Tryz.f7.body.getD .skip, Tryz.func7, by kernel_rfl, stat7, has7⟩
noncomputable def row8 : FnRow Tryz.prog btAll := ⟨8, Tryz.f8, Tryz.f8.body.getD .skip, Tryz.func8, by kernel_rfl, stat8, has8⟩
noncomputable def row9 : FnRow Tryz.prog btAll := ⟨9, Tryz.f9, Tryz.f9.body.getD .skip, Tryz.func9, by kernel_rfl, stat9, has9⟩
noncomputable def row10 : FnRow Tryz.prog btAll := ⟨10, Tryz.f10, Tryz.f10.body.getD .skip, Tryz.func10, by kernel_rfl, stat10, has10⟩
noncomputable def row11 : FnRow Tryz.prog btAll := ⟨11, Tryz.f11, Tryz.f11.body.getD .skip, Tryz.func11, by kernel_rfl, stat11, has11⟩
noncomputable def row12 : FnRow Tryz.prog btAll := ⟨12, Tryz.f12, Tryz.f12.body.getD .skip, Tryz.func12, by kernel_rfl, stat12, has12⟩
noncomputable def row13 : FnRow Tryz.prog btAll := ⟨13, Tryz.f13, Tryz.f13.body.getD .skip, Tryz.func13, by kernel_rfl, stat13, has13⟩
noncomputable def row14 : FnRow Tryz.prog btAll := ⟨14, Tryz.f14, Tryz.f14.body.getD .skip, Tryz.func14, by kernel_rfl, stat14, has14⟩
noncomputable def row15 : FnRow Tryz.prog btAll := ⟨15, Tryz.f15, Tryz.f15.body.getD .skip, Tryz.func15, by kernel_rfl, stat15, has15⟩
noncomputable def row16 : FnRow Tryz.prog btAll := ⟨16, Tryz.f16, Tryz.f16.body.getD .skip, Tryz.func16, by kernel_rfl, stat16, has16⟩
noncomputable def row17 : FnRow Tryz.prog btAll := ⟨17, Tryz.f17, Tryz.f17.body.getD .skip, Tryz.func17, by kernel_rfl, stat17, has17⟩
noncomputable def row18 : FnRow Tryz.prog btAll := ⟨18, Tryz.f18, Tryz.f18.body.getD .skip, Tryz.func18, by kernel_rfl, stat18, has18⟩
noncomputable def row19 : FnRow Tryz.prog btAll := ⟨19, Tryz.f19, Tryz.f19.body.getD .skip, Tryz.func19, by kernel_rfl, stat19, has19⟩
noncomputable def row20 : FnRow Tryz.prog btAll := ⟨20, Tryz.f20, Tryz.f20.body.getD .skip, Tryz.func20, by kernel_rfl, stat20, has20⟩
noncomputable def row21 : FnRow Tryz.prog btAll := ⟨21, Tryz.f21, Tryz.f21.body.getD .skip, Tryz.func21, by kernel_rfl, stat21, has21⟩
noncomputable def row22 : FnRow Tryz.prog btAll := ⟨22, Tryz.f22, Tryz.f22.body.getD .skip, Tryz.func22, by kernel_rfl, stat22, has22⟩
noncomputable def row23 : FnRow Tryz.prog btAll := ⟨23, Tryz.f23, Tryz.f23.body.getD .skip, Tryz.func23, by kernel_rfl, stat23, has23⟩
noncomputable def row24 : FnRow Tryz.prog btAll := ⟨24, Tryz.f24, Tryz.f24.body.getD .skip, Tryz.func24, by kernel_rfl, stat24, has24⟩
noncomputable def row25 : FnRow Tryz.prog btAll := ⟨25, Tryz.f25, Tryz.f25.body.getD .skip, Tryz.func25, by kernel_rfl, stat25, has25⟩
noncomputable def row26 : FnRow Tryz.prog btAll := ⟨26, Tryz.f26, Tryz.f26.body.getD .skip, Tryz.func26, by kernel_rfl, stat26, has26⟩
noncomputable def row27 : FnRow Tryz.prog btAll := ⟨27, Tryz.f27, Tryz.f27.body.getD .skip, Tryz.func27, by kernel_rfl, stat27, has27⟩
noncomputable def row28 : FnRow Tryz.prog btAll := ⟨28, Tryz.f28, Tryz.f28.body.getD .skip, Tryz.func28, by kernel_rfl, stat28, has28⟩
noncomputable def row29 : FnRow Tryz.prog btAll := ⟨29, Tryz.f29, Tryz.f29.body.getD .skip, Tryz.func29, by kernel_rfl, stat29, has29⟩
noncomputable def row30 : FnRow Tryz.prog btAll := ⟨30, Tryz.f30, Tryz.f30.body.getD .skip, Tryz.func30, by kernel_rfl, stat30, has30⟩
noncomputable def row31 : FnRow Tryz.prog btAll := ⟨31, Tryz.f31, Tryz.f31.body.getD .skip, Tryz.func31, by kernel_rfl, stat31, has31⟩
noncomputable def row32 : FnRow Tryz.prog btAll := ⟨32, Tryz.f32, Tryz.f32.body.getD .skip, Tryz.func32, by kernel_rfl, stat32, has32⟩
noncomputable def row33 : FnRow Tryz.prog btAll := ⟨33, Tryz.f33, Tryz.f33.body.getD .skip, Tryz.func33, by kernel_rfl, stat33, has33⟩
noncomputable def row34 : FnRow Tryz.prog btAll := ⟨34, Tryz.f34, Tryz.f34.body.getD .skip, Tryz.func34, by kernel_rfl, stat34, has34⟩
noncomputable def row35 : FnRow Tryz.prog btAll := ⟨35, Tryz.f35, Tryz.f35.body.getD .skip, Tryz.func35, by kernel_rfl, stat35, has35⟩
noncomputable def row36 : FnRow Tryz.prog btAll := ⟨36, Tryz.f36, Tryz.f36.body.getD .skip, Tryz.func36, by kernel_rfl, stat36, has36⟩
noncomputable def row37 : FnRow Tryz.prog btAll := ⟨37, Tryz.f37, Tryz.f37.body.getD .skip, Tryz.func37, by kernel_rfl, stat37, has37⟩
noncomputable def row38 : FnRow Tryz.prog btAll := ⟨38, Tryz.f38, Tryz.f38.body.getD .skip, Tryz.func38, by kernel_rfl, stat38, has38⟩
noncomputable def row39 : FnRow Tryz.prog btAll := ⟨39, Tryz.f39, Tryz.f39.body.getD .skip, Tryz.func39, by kernel_rfl, stat39, has39⟩
noncomputable def row40 : FnRow Tryz.prog btAll := ⟨40, Tryz.f40, Tryz.f40.body.getD .skip, Tryz.func40, by kernel_rfl, stat40, has40⟩
noncomputable def row41 : FnRow Tryz.prog btAll := ⟨41, Tryz.f41, Tryz.f41.body.getD .skip, Tryz.func41, by kernel_rfl, stat41, has41⟩
noncomputable def row42 : FnRow Tryz.prog btAll := ⟨42, Tryz.f42, Tryz.f42.body.getD .skip, Tryz.func42, by kernel_rfl, stat42, has42⟩
noncomputable def row43 : FnRow Tryz.prog btAll := ⟨43, Tryz.f43, Tryz.f43.body.getD .skip, Tryz.func43, by kernel_rfl, stat43, has43⟩
noncomputable def row44 : FnRow Tryz.prog btAll := ⟨44, Tryz.f44, Tryz.f44.body.getD .skip, Tryz.func44, by kernel_rfl, stat44, has44⟩
noncomputable def row45 : FnRow Tryz.prog btAll := ⟨45, Tryz.f45, Tryz.f45.body.getD .skip, Tryz.func45, by kernel_rfl, stat45, has45⟩
noncomputable def row46 : FnRow Tryz.prog btAll := ⟨46, Tryz.f46, Tryz.f46.body.getD .skip, Tryz.func46, by kernel_rfl, stat46, has46⟩
noncomputable def row47 : FnRow Tryz.prog btAll := ⟨47, Tryz.f47, Tryz.f47.body.getD .skip, Tryz.func47, by kernel_rfl, stat47, has47⟩
noncomputable def row48 : FnRow Tryz.prog btAll := ⟨48, Tryz.f48, Tryz.f48.body.getD .skip, Tryz.func48, by kernel_rfl, stat48, has48⟩
noncomputable def row49 : FnRow Tryz.prog btAll := ⟨49, Tryz.f49, Tryz.f49.body.getD .skip, Tryz.func49, by kernel_rfl, stat49, has49⟩
noncomputable def row50 : FnRow Tryz.prog btAll := ⟨50, Tryz.f50, Tryz.f50.body.getD .skip, Tryz.func50, by kernel_rfl, stat50, has50⟩
noncomputable def row51 : FnRow Tryz.prog btAll := ⟨51, Tryz.f51, Tryz.f51.body.getD .skip, Tryz.func51, by kernel_rfl, stat51, has51⟩
noncomputable def row52 : FnRow Tryz.prog btAll := ⟨52, Tryz.f52, Tryz.f52.body.getD .skip, Tryz.func52, by kernel_rfl, stat52, has52⟩
noncomputable def row53 : FnRow Tryz.prog btAll := ⟨53, Tryz.f53, Tryz.f53.body.getD .skip, Tryz.func53, by kernel_rfl, stat53, has53⟩
noncomputable def row54 : FnRow Tryz.prog btAll := ⟨54, Tryz.f54, Tryz.f54.body.getD .skip, Tryz.func54, by kernel_rfl, stat54, has54⟩
noncomputable def row55 : FnRow Tryz.prog btAll := ⟨55, Tryz.f55, Tryz.f55.body.getD .skip, Tryz.func55, by kernel_rfl, stat55, has55⟩
noncomputable def row56 : FnRow Tryz.prog btAll := ⟨56, Tryz.f56, Tryz.f56.body.getD .skip, Tryz.func56, by kernel_rfl, stat56, has56⟩
noncomputable def row57 : FnRow Tryz.prog btAll := ⟨57, Tryz.f57, Tryz.f57.body.getD .skip, Tryz.func57, by kernel_rfl, stat57, has57⟩
noncomputable def row58 : FnRow Tryz.prog btAll := ⟨58, Tryz.f58, Tryz.f58.body.getD .skip, Tryz.func58, by kernel_rfl, stat58, has58⟩
noncomputable def row59 : FnRow Tryz.prog btAll := ⟨59, Tryz.f59, Tryz.f59.body.getD .skip, Tryz.func59, by kernel_rfl, stat59, has59⟩
noncomputable def row60 : FnRow Tryz.prog btAll := ⟨60, Tryz.f60, Tryz.f60.body.getD .skip, Tryz.func60, by kernel_rfl, stat60, has60⟩
noncomputable def row61 : FnRow Tryz.prog btAll := ⟨61, Tryz.f61, Tryz.f61.body.getD .skip, Tryz.func61, by kernel_rfl, stat61, has61⟩
noncomputable def row62 : FnRow Tryz.prog btAll := ⟨62, Tryz.f62, Tryz.f62.body.getD .skip, Tryz.func62, by kernel_rfl, stat62, has62⟩
noncomputable def row63 : FnRow Tryz.prog btAll := ⟨63, Tryz.f63, Tryz.f63.body.getD .skip, Tryz.func63, by kernel_rfl, stat63, has63⟩
noncomputable def row64 : FnRow Tryz.prog btAll := ⟨64, Tryz.f64, Tryz.f64.body.getD .skip, Tryz.func64, by kernel_rfl, stat64, has64⟩
noncomputable def row65 : FnRow Tryz.prog btAll := ⟨65, Tryz.f65, Tryz.f65.body.getD .skip, Tryz.func65, by kernel_rfl, stat65, has65⟩
noncomputable def row66 : FnRow Tryz.prog btAll := ⟨66, Tryz.f66, Tryz.f66.body.getD .skip, Tryz.func66, by kernel_rfl, stat66, has66⟩
noncomputable def row67 : FnRow Tryz.prog btAll := ⟨67, Tryz.f67, Tryz.f67.body.getD .skip, Tryz.func67, by kernel_rfl, stat67, has67⟩
noncomputable def row68 : FnRow Tryz.prog btAll := ⟨68, Tryz.f68, Tryz.f68.body.getD .skip, Tryz.func68, by kernel_rfl, stat68, has68⟩
noncomputable def row69 : FnRow Tryz.prog btAll := ⟨69, Tryz.f69, Tryz.f69.body.getD .skip, Tryz.func69, by kernel_rfl, stat69, has69⟩
noncomputable def row70 : FnRow Tryz.prog btAll := ⟨70, Tryz.f70, Tryz.f70.body.getD .skip, Tryz.func70, by kernel_rfl, stat70, has70⟩
noncomputable def row71 : FnRow Tryz.prog btAll := ⟨71, Tryz.f71, Tryz.f71.body.getD .skip, Tryz.func71, by kernel_rfl, stat71, has71⟩
noncomputable def row72 : FnRow Tryz.prog btAll := ⟨72, Tryz.f72, Tryz.f72.body.getD .skip, Tryz.func72, by kernel_rfl, stat72, has72⟩
noncomputable def row73 : FnRow Tryz.prog btAll := ⟨73, Tryz.f73, Tryz.f73.body.getD .skip, Tryz.func73, by kernel_rfl, stat73, has73⟩
noncomputable def row74 : FnRow Tryz.prog btAll := ⟨74, Tryz.f74, Tryz.f74.body.getD .skip, Tryz.func74, by kernel_rfl, stat74, has74⟩
noncomputable def row75 : FnRow Tryz.prog btAll := ⟨75, Tryz.f75, Tryz.f75.body.getD .skip, Tryz.func75, by kernel_rfl, stat75, has75⟩
noncomputable def row76 : FnRow Tryz.prog btAll := ⟨76, Tryz.f76, Tryz.f76.body.getD .skip, Tryz.func76, by kernel_rfl, stat76, has76⟩
noncomputable def row77 : FnRow Tryz.prog btAll := ⟨77, Tryz.f77, Tryz.f77.body.getD .skip, Tryz.func77, by kernel_rfl, stat77, has77⟩
noncomputable def row78 : FnRow Tryz.prog btAll := ⟨78, Tryz.f78, Tryz.f78.body.getD .skip, Tryz.func78, by kernel_rfl, stat78, has78⟩
noncomputable def row79 : FnRow Tryz.prog btAll := ⟨79, Tryz.f79, Tryz.f79.body.getD .skip, Tryz.func79, by kernel_rfl, stat79, has79⟩
noncomputable def row80 : FnRow Tryz.prog btAll := ⟨80, Tryz.f80, Tryz.f80.body.getD .skip, Tryz.func80, by kernel_rfl, stat80, has80⟩
noncomputable def row81 : FnRow Tryz.prog btAll := ⟨81, Tryz.f81, Tryz.f81.body.getD .skip, Tryz.func81, by kernel_rfl, stat81, has81⟩
noncomputable def row82 : FnRow Tryz.prog btAll := ⟨82, Tryz.f82, Tryz.f82.body.getD .skip, Tryz.func82, by kernel_rfl, stat82, has82⟩
noncomputable def row83 : FnRow Tryz.prog btAll := ⟨83, Tryz.f83, Tryz.f83.body.getD .skip, Tryz.func83, by kernel_rfl, stat83, has83⟩
noncomputable def row84 : FnRow Tryz.prog btAll := ⟨84, Tryz.f84, Tryz.f84.body.getD .skip, Tryz.func84, by kernel_rfl, stat84, has84⟩
noncomputable def row85 : FnRow Tryz.prog btAll := ⟨85, Tryz.f85, Tryz.f85.body.getD .skip, Tryz.func85, by kernel_rfl, stat85, has85⟩
noncomputable def row86 : FnRow Tryz.prog btAll := ⟨86, Tryz.f86, Tryz.f86.body.getD .skip, Tryz.func86, by kernel_rfl, stat86, has86⟩
noncomputable def row87 : FnRow Tryz.prog btAll := ⟨87, Tryz.f87, Tryz.f87.body.getD .skip, Tryz.func87, by kernel_rfl, stat87, has87⟩
noncomputable def row88 : FnRow Tryz.prog btAll := ⟨88, Tryz.f88, Tryz.f88.body.getD .skip, Tryz.func88, by kernel_rfl, stat88, has88⟩
noncomputable def row89 : FnRow Tryz.prog btAll := ⟨89, Tryz.f89, Tryz.f89.body.getD .skip, Tryz.func89, by kernel_rfl, stat89, has89⟩
noncomputable def row90 : FnRow Tryz.prog btAll := ⟨90, Tryz.f90, Tryz.f90.body.getD .skip, Tryz.func90, by kernel_rfl, stat90, has90⟩
noncomputable def row91 : FnRow Tryz.prog btAll := ⟨91, Tryz.f91, Tryz.f91.body.getD .skip, Tryz.func91, by kernel_rfl, stat91, has91⟩
noncomputable def row92 : FnRow Tryz.prog btAll := ⟨92, Tryz.f92, Tryz.f92.body.getD .skip, Tryz.func92, by kernel_rfl, stat92, has92⟩
noncomputable def row93 : FnRow Tryz.prog btAll := ⟨93, Tryz.f93, Tryz.f93.body.getD .skip, Tryz.func93, by kernel_rfl, stat93, has93⟩
noncomputable def row94 : FnRow Tryz.prog btAll := ⟨94, Tryz.f94, Tryz.f94.body.getD .skip, Tryz.func94, by kernel_rfl, stat94, has94⟩
noncomputable def row95 : FnRow Tryz.prog btAll := ⟨95, Tryz.f95, Tryz.f95.body.getD .skip, Tryz.func95, by kernel_rfl, stat95, has95⟩
noncomputable def row96 : FnRow Tryz.prog btAll := ⟨96, Tryz.f96, Tryz.f96.body.getD .skip, Tryz.func96, by kernel_rfl, stat96, has96⟩
noncomputable def row97 : FnRow Tryz.prog btAll := ⟨97, Tryz.f97, Tryz.f97.body.getD .skip, Tryz.func97, by kernel_rfl, stat97, has97⟩
noncomputable def row98 : FnRow Tryz.prog btAll := ⟨98, Tryz.f98, Tryz.f98.body.getD .skip, Tryz.func98, by kernel_rfl, stat98, has98⟩
noncomputable def row99 : FnRow Tryz.prog btAll := ⟨99, Tryz.f99, Tryz.f99.body.getD .skip, Tryz.func99, by kernel_rfl, stat99, has99⟩
noncomputable def row100 : FnRow Tryz.prog btAll := ⟨100, Tryz.f100, Tryz.f100.body.getD .skip, Tryz.func100, by kernel_rfl, stat100, has100⟩
noncomputable def row101 : FnRow Tryz.prog btAll := ⟨101, Tryz.f101, Tryz.f101.body.getD .skip, Tryz.func101, by kernel_rfl, stat101, has101⟩
noncomputable def row102 : FnRow Tryz.prog btAll := ⟨102, Tryz.f102, Tryz.f102.body.getD .skip, Tryz.func102, by kernel_rfl, stat102, has102⟩
noncomputable def row103 : FnRow Tryz.prog btAll := ⟨103, Tryz.f103, Tryz.f103.body.getD .skip, Tryz.func103, by kernel_rfl, stat103, has103⟩
noncomputable def row104 : FnRow Tryz.prog btAll := ⟨104, Tryz.f104, Tryz.f104.body.getD .skip, Tryz.func104, by kernel_rfl, stat104, has104⟩
noncomputable def row105 : FnRow Tryz.prog btAll := ⟨105, Tryz.f105, Tryz.f105.body.getD .skip, Tryz.func105, by kernel_rfl, stat105, has105⟩
noncomputable def row106 : FnRow Tryz.prog btAll := ⟨106, Tryz.f106, Tryz.f106.body.getD .skip, Tryz.func106, by kernel_rfl, stat106, has106⟩
noncomputable def row107 : FnRow Tryz.prog btAll := ⟨107, Tryz.f107, Tryz.f107.body.getD .skip, Tryz.func107, by kernel_rfl, stat107, has107⟩
noncomputable def row108 : FnRow Tryz.prog btAll := ⟨108, Tryz.f108, Tryz.f108.body.getD .skip, Tryz.func108, by kernel_rfl, stat108, has108⟩
noncomputable def row109 : FnRow Tryz.prog btAll := ⟨109, Tryz.f109, Tryz.f109.body.getD .skip, Tryz.func109, by kernel_rfl, stat109, has109⟩
noncomputable def row110 : FnRow Tryz.prog btAll := ⟨110, Tryz.f110, Tryz.f110.body.getD .skip, Tryz.func110, by kernel_rfl, stat110, has110⟩
noncomputable def row111 : FnRow Tryz.prog btAll := ⟨111, Tryz.f111, Tryz.f111.body.getD .skip, Tryz.func111, by kernel_rfl, stat111, has111⟩
noncomputable def row112 : FnRow Tryz.prog btAll := ⟨112, Tryz.f112, Tryz.f112.body.getD .skip, Tryz.func112, by kernel_rfl, stat112, has112⟩
noncomputable def row113 : FnRow Tryz.prog btAll := ⟨113, Tryz.f113, Tryz.f113.body.getD .skip, Tryz.func113, by kernel_rfl, stat113, has113⟩
noncomputable def row114 : FnRow Tryz.prog btAll := ⟨114, Tryz.f114, Tryz.f114.body.getD .skip, Tryz.func114, by kernel_rfl, stat114, has114⟩
noncomputable def row115 : FnRow Tryz.prog btAll := ⟨115, Tryz.f115, Tryz.f115.body.getD .skip, Tryz.func115, by kernel_rfl, stat115, has115⟩
noncomputable def row116 : FnRow Tryz.prog btAll := ⟨116, Tryz.f116, Tryz.f116.body.getD .skip, Tryz.func116, by kernel_rfl, stat116, has116⟩
noncomputable def row117 : FnRow Tryz.prog btAll := ⟨117, Tryz.f117, Tryz.f117.body.getD .skip, Tryz.func117, by kernel_rfl, stat117, has117⟩
noncomputable def row118 : FnRow Tryz.prog btAll := ⟨118, Tryz.f118, Tryz.f118.body.getD .skip, Tryz.func118, by kernel_rfl, stat118, has118⟩
noncomputable def row119 : FnRow Tryz.prog btAll := ⟨119, Tryz.f119, Tryz.f119.body.getD .skip, Tryz.func119, by kernel_rfl, stat119, has119⟩
noncomputable def row120 : FnRow Tryz.prog btAll := ⟨120, Tryz.f120, Tryz.f120.body.getD .skip, Tryz.func120, by kernel_rfl, stat120, has120⟩
noncomputable def row121 : FnRow Tryz.prog btAll := ⟨121, Tryz.f121, Tryz.f121.body.getD .skip, Tryz.func121, by kernel_rfl, stat121, has121⟩
noncomputable def row125 : FnRow Tryz.prog btAll := ⟨125, Tryz.f125, Tryz.f125.body.getD .skip, Tryz.func125, by kernel_rfl, stat125, has125⟩
noncomputable def row126 : FnRow Tryz.prog btAll := ⟨126, Tryz.f126, Tryz.f126.body.getD .skip, Tryz.func126, by kernel_rfl, stat126, has126⟩
noncomputable def row127 : FnRow Tryz.prog btAll := ⟨127, Tryz.f127, Tryz.f127.body.getD .skip, Tryz.func127, by kernel_rfl, stat127, has127⟩
noncomputable def row128 : FnRow Tryz.prog btAll := ⟨128, Tryz.f128, Tryz.f128.body.getD .skip, Tryz.func128, by kernel_rfl, stat128, has128⟩
noncomputable def row129 : FnRow Tryz.prog btAll := ⟨129, Tryz.f129, Tryz.f129.body.getD .skip, Tryz.func129, by kernel_rfl, stat129, has129⟩
noncomputable def row130 : FnRow Tryz.prog btAll := ⟨130, Tryz.f130, Tryz.f130.body.getD .skip, Tryz.func130, by kernel_rfl, stat130, has130⟩
noncomputable def row131 : FnRow Tryz.prog btAll := ⟨131, Tryz.f131, Tryz.f131.body.getD .skip, Tryz.func131, by kernel_rfl, stat131, has131⟩
noncomputable def row132 : FnRow Tryz.prog btAll := ⟨132, Tryz.f132, Tryz.f132.body.getD .skip, Tryz.func132, by kernel_rfl, stat132, has132⟩
noncomputable def row133 : FnRow Tryz.prog btAll := ⟨133, Tryz.f133, Tryz.f133.body.getD .skip, Tryz.func133, by kernel_rfl, stat133, has133⟩
noncomputable def row134 : FnRow Tryz.prog btAll := ⟨134, Tryz.f134, Tryz.f134.body.getD .skip, Tryz.func134, by kernel_rfl, stat134, has134⟩
noncomputable def row135 : FnRow Tryz.prog btAll := ⟨135, Tryz.f135, Tryz.f135.body.getD .skip, Tryz.func135, by kernel_rfl, stat135, has135⟩
noncomputable def row136 : FnRow Tryz.prog btAll := ⟨136, Tryz.f136, Tryz.f136.body.getD .skip, Tryz.func136, by kernel_rfl, stat136, has136⟩
noncomputable def row137 : FnRow Tryz.prog btAll := ⟨137, Tryz.f137, Tryz.f137.body.getD .skip, Tryz.func137, by kernel_rfl, stat137, has137⟩
noncomputable def row138 : FnRow Tryz.prog btAll := ⟨138, Tryz.f138, Tryz.f138.body.getD .skip, Tryz.func138, by kernel_rfl, stat138, has138⟩
noncomputable def row139 : FnRow Tryz.prog btAll := ⟨139, Tryz.f139, Tryz.f139.body.getD .skip, Tryz.func139, by kernel_rfl, stat139, has139⟩
noncomputable def row140 : FnRow Tryz.prog btAll := ⟨140, Tryz.f140, Tryz.f140.body.getD .skip, Tryz.func140, by kernel_rfl, stat140, has140⟩
noncomputable def row141 : FnRow Tryz.prog btAll := ⟨141, Tryz.f141, Tryz.f141.body.getD .skip, Tryz.func141, by kernel_rfl, stat141, has141⟩
noncomputable def row142 : FnRow Tryz.prog btAll := ⟨142, Tryz.f142, Tryz.f142.body.getD .skip, Tryz.func142, by kernel_rfl, stat142, has142⟩
noncomputable def row143 : FnRow Tryz.prog btAll := ⟨143, Tryz.f143, Tryz.f143.body.getD .skip, Tryz.func143, by kernel_rfl, stat143, has143⟩
noncomputable def row144 : FnRow Tryz.prog btAll := ⟨144, Tryz.f144, Tryz.f144.body.getD .skip, Tryz.func144, by kernel_rfl, stat144, has144⟩
noncomputable def row145 : FnRow Tryz.prog btAll := ⟨145, Tryz.f145, Tryz.f145.body.getD .skip, Tryz.func145, by kernel_rfl, stat145, has145⟩
noncomputable def row146 : FnRow Tryz.prog btAll := ⟨146, Tryz.f146, Tryz.f146.body.getD .skip, Tryz.func146, by kernel_rfl, stat146, has146⟩
noncomputable def row147 : FnRow Tryz.prog btAll := ⟨147, Tryz.f147, Tryz.f147.body.getD .skip, Tryz.func147, by kernel_rfl, stat147, has147⟩
noncomputable def row148 : FnRow Tryz.prog btAll := ⟨148, Tryz.f148, Tryz.f148.body.getD .skip, Tryz.func148, by kernel_rfl, stat148, has148⟩
noncomputable def row149 : FnRow Tryz.prog btAll := ⟨149, Tryz.f149, Tryz.f149.body.getD .skip, Tryz.func149, by kernel_rfl, stat149, has149⟩
noncomputable def row150 : FnRow Tryz.prog btAll := ⟨150, Tryz.f150, Tryz.f150.body.getD .skip, Tryz.func150, by kernel_rfl, stat150, has150⟩
noncomputable def row151 : FnRow Tryz.prog btAll := ⟨151, Tryz.f151, Tryz.f151.body.getD .skip, Tryz.func151, by kernel_rfl, stat151, has151⟩
noncomputable def row152 : FnRow Tryz.prog btAll := ⟨152, Tryz.f152, Tryz.f152.body.getD .skip, Tryz.func152, by kernel_rfl, stat152, has152⟩
noncomputable def row153 : FnRow Tryz.prog btAll := ⟨153, Tryz.f153, Tryz.f153.body.getD .skip, Tryz.func153, by kernel_rfl, stat153, has153⟩
noncomputable def row154 : FnRow Tryz.prog btAll := ⟨154, Tryz.f154, Tryz.f154.body.getD .skip, Tryz.func154, by kernel_rfl, stat154, has154⟩
noncomputable def row155 : FnRow Tryz.prog btAll := ⟨155, Tryz.f155, Tryz.f155.body.getD .skip, Tryz.func155, by kernel_rfl, stat155, has155⟩
noncomputable def row156 : FnRow Tryz.prog btAll := ⟨156, Tryz.f156, Tryz.f156.body.getD .skip, Tryz.func156, by kernel_rfl, stat156, has156⟩
noncomputable def row157 : FnRow Tryz.prog btAll := ⟨157, Tryz.f157, Tryz.f157.body.getD .skip, Tryz.func157, by kernel_rfl, stat157, has157⟩
noncomputable def row158 : FnRow Tryz.prog btAll := ⟨158, Tryz.f158, Tryz.f158.body.getD .skip, Tryz.func158, by kernel_rfl, stat158, has158⟩
noncomputable def row159 : FnRow Tryz.prog btAll := ⟨159, Tryz.f159, Tryz.f159.body.getD .skip, Tryz.func159, by kernel_rfl, stat159, has159⟩
noncomputable def row160 : FnRow Tryz.prog btAll := ⟨160, Tryz.f160, Tryz.f160.body.getD .skip, Tryz.func160, by kernel_rfl, stat160, has160⟩
noncomputable def row161 : FnRow Tryz.prog btAll := ⟨161, Tryz.f161, Tryz.f161.body.getD .skip, Tryz.func161, by kernel_rfl, stat161, has161⟩
noncomputable def row162 : FnRow Tryz.prog btAll := ⟨162, Tryz.f162, Tryz.f162.body.getD .skip, Tryz.func162, by kernel_rfl, stat162, has162⟩
noncomputable def row163 : FnRow Tryz.prog btAll := ⟨163, Tryz.f163, Tryz.f163.body.getD .skip, Tryz.func163, by kernel_rfl, stat163, has163⟩
noncomputable def row164 : FnRow Tryz.prog btAll := ⟨164, Tryz.f164, Tryz.f164.body.getD .skip, Tryz.func164, by kernel_rfl, stat164, has164⟩
noncomputable def row165 : FnRow Tryz.prog btAll := ⟨165, Tryz.f165, Tryz.f165.body.getD .skip, Tryz.func165, by kernel_rfl, stat165, has165⟩
noncomputable def row166 : FnRow Tryz.prog btAll := ⟨166, Tryz.f166, Tryz.f166.body.getD .skip, Tryz.func166, by kernel_rfl, stat166, has166⟩
noncomputable def row167 : FnRow Tryz.prog btAll := ⟨167, Tryz.f167, Tryz.f167.body.getD .skip, Tryz.func167, by kernel_rfl, stat167, has167⟩
noncomputable def row168 : FnRow Tryz.prog btAll := ⟨168, Tryz.f168, Tryz.f168.body.getD .skip, Tryz.func168, by kernel_rfl, stat168, has168⟩
noncomputable def row169 : FnRow Tryz.prog btAll := ⟨169, Tryz.f169, Tryz.f169.body.getD .skip, Tryz.func169, by kernel_rfl, stat169, has169⟩
noncomputable def row170 : FnRow Tryz.prog btAll := ⟨170, Tryz.f170, Tryz.f170.body.getD .skip, Tryz.func170, by kernel_rfl, stat170, has170⟩
noncomputable def row171 : FnRow Tryz.prog btAll := ⟨171, Tryz.f171, Tryz.f171.body.getD .skip, Tryz.func171, by kernel_rfl, stat171, has171⟩
noncomputable def row172 : FnRow Tryz.prog btAll := ⟨172, Tryz.f172, Tryz.f172.body.getD .skip, Tryz.func172, by kernel_rfl, stat172, has172⟩
noncomputable def row173 : FnRow Tryz.prog btAll := ⟨173, Tryz.f173, Tryz.f173.body.getD .skip, Tryz.func173, by kernel_rfl, stat173, has173⟩
noncomputable def row174 : FnRow Tryz.prog btAll := ⟨174, Tryz.f174, Tryz.f174.body.getD .skip, Tryz.func174, by kernel_rfl, stat174, has174⟩
noncomputable def row175 : FnRow Tryz.prog btAll := ⟨175, Tryz.f175, Tryz.f175.body.getD .skip, Tryz.func175, by kernel_rfl, stat175, has175⟩
noncomputable def row176 : FnRow Tryz.prog btAll := ⟨176, Tryz.f176, Tryz.f176.body.getD .skip, Tryz.func176, by kernel_rfl, stat176, has176⟩
noncomputable def row177 : FnRow Tryz.prog btAll := ⟨177, Tryz.f177, Tryz.f177.body.getD .skip, Tryz.func177, by kernel_rfl, stat177, has177⟩
noncomputable def row178 : FnRow Tryz.prog btAll := ⟨178, Tryz.f178, Tryz.f178.body.getD .skip, Tryz.func178, by kernel_rfl, stat178, has178⟩
noncomputable def row179 : FnRow Tryz.prog btAll := ⟨179, Tryz.f179, Tryz.f179.body.getD .skip, Tryz.func179, by kernel_rfl, stat179, has179⟩
noncomputable def row180 : FnRow Tryz.prog btAll := ⟨180, Tryz.f180, Tryz.f180.body.getD .skip, Tryz.func180, by kernel_rfl, stat180, has180⟩
noncomputable def row181 : FnRow Tryz.prog btAll := ⟨181, Tryz.f181, Tryz.f181.body.getD .skip, Tryz.func181, by kernel_rfl, stat181, has181⟩
noncomputable def row182 : FnRow Tryz.prog btAll := ⟨182, Tryz.f182, Tryz.f182.body.getD .skip, Tryz.func182, by kernel_rfl, stat182, has182⟩
noncomputable def row183 : FnRow Tryz.prog btAll := ⟨183, Tryz.f183, Tryz.f183.body.getD .skip, Tryz.func183, by kernel_rfl, stat183, has183⟩
noncomputable def row184 : FnRow Tryz.prog btAll := ⟨184, Tryz.f184, Tryz.f184.body.getD .skip, Tryz.func184, by kernel_rfl, stat184, has184⟩
noncomputable def row185 : FnRow Tryz.prog btAll := ⟨185, Tryz.f185, Tryz.f185.body.getD .skip, Tryz.func185, by kernel_rfl, stat185, has185⟩
noncomputable def row186 : FnRow Tryz.prog btAll := ⟨186, Tryz.f186, Tryz.f186.body.getD .skip, Tryz.func186, by kernel_rfl, stat186, has186⟩
noncomputable def row187 : FnRow Tryz.prog btAll := ⟨187, Tryz.f187, Tryz.f187.body.getD .skip, Tryz.func187, by kernel_rfl, stat187, has187⟩
noncomputable def row189 : FnRow Tryz.prog btAll := ⟨189, Tryz.f189, Tryz.f189.body.getD .skip, Tryz.func189, by kernel_rfl, stat189, has189⟩
noncomputable def row190 : FnRow Tryz.prog btAll := ⟨190, Tryz.f190, Tryz.f190.body.getD .skip, Tryz.func190, by kernel_rfl, stat190, has190⟩
noncomputable def row191 : FnRow Tryz.prog btAll := ⟨191, Tryz.f191, Tryz.f191.body.getD .skip, Tryz.func191, by kernel_rfl, stat191, has191⟩
noncomputable def row192 : FnRow Tryz.prog btAll := ⟨192, Tryz.f192, Tryz.f192.body.getD .skip, Tryz.func192, by kernel_rfl, stat192, has192⟩
noncomputable def row193 : FnRow Tryz.prog btAll := ⟨193, Tryz.f193, Tryz.f193.body.getD .skip, Tryz.func193, by kernel_rfl, stat193, has193⟩
noncomputable def row194 : FnRow Tryz.prog btAll := ⟨194, Tryz.f194, Tryz.f194.body.getD .skip, Tryz.func194, by kernel_rfl, stat194, has194⟩
noncomputable def row195 : FnRow Tryz.prog btAll := ⟨195, Tryz.f195, Tryz.f195.body.getD .skip, Tryz.func195, by kernel_rfl, stat195, has195⟩
noncomputable def row196 : FnRow Tryz.prog btAll := ⟨196, Tryz.f196, Tryz.f196.body.getD .skip, Tryz.func196, by kernel_rfl, stat196, has196⟩
noncomputable def row197 : FnRow Tryz.prog btAll := ⟨197, Tryz.f197, Tryz.f197.body.getD .skip, Tryz.func197, by kernel_rfl, stat197, has197⟩
noncomputable def row198 : FnRow Tryz.prog btAll := ⟨198, Tryz.f198, Tryz.f198.body.getD .skip, Tryz.func198, by kernel_rfl, stat198, has198⟩
noncomputable def row199 : FnRow Tryz.prog btAll := ⟨199, Tryz.f199, Tryz.f199.body.getD .skip, Tryz.func199, by kernel_rfl, stat199, has199⟩
noncomputable def row200 : FnRow Tryz.prog btAll := ⟨200, Tryz.f200, Tryz.f200.body.getD .skip, Tryz.func200, by kernel_rfl, stat200, has200⟩
noncomputable def row201 : FnRow Tryz.prog btAll := ⟨201, Tryz.f201, Tryz.f201.body.getD .skip, Tryz.func201, by kernel_rfl, stat201, has201⟩
noncomputable def row202 : FnRow Tryz.prog btAll := ⟨202, Tryz.f202, Tryz.f202.body.getD .skip, Tryz.func202, by kernel_rfl, stat202, has202⟩
noncomputable def row203 : FnRow Tryz.prog btAll := ⟨203, Tryz.f203, Tryz.f203.body.getD .skip, Tryz.func203, by kernel_rfl, stat203, has203⟩
noncomputable def row204 : FnRow Tryz.prog btAll := ⟨204, Tryz.f204, Tryz.f204.body.getD .skip, Tryz.func204, by kernel_rfl, stat204, has204⟩
noncomputable def row205 : FnRow Tryz.prog btAll := ⟨205, Tryz.f205, Tryz.f205.body.getD .skip, Tryz.func205, by kernel_rfl, stat205, has205⟩
noncomputable def row206 : FnRow Tryz.prog btAll := ⟨206, Tryz.f206, Tryz.f206.body.getD .skip, Tryz.func206, by kernel_rfl, stat206, has206⟩
noncomputable def row207 : FnRow Tryz.prog btAll := ⟨207, Tryz.f207, Tryz.f207.body.getD .skip, Tryz.func207, by kernel_rfl, stat207, has207⟩
noncomputable def row208 : FnRow Tryz.prog btAll := ⟨208, Tryz.f208, Tryz.f208.body.getD .skip, Tryz.func208, by kernel_rfl, stat208, has208⟩
noncomputable def row209 : FnRow Tryz.prog btAll := ⟨209, Tryz.f209, Tryz.f209.body.getD .skip, Tryz.func209, by kernel_rfl, stat209, has209⟩
noncomputable def row210 : FnRow Tryz.prog btAll := ⟨210, Tryz.f210, Tryz.f210.body.getD .skip, Tryz.func210, by kernel_rfl, stat210, has210⟩
noncomputable def row211 : FnRow Tryz.prog btAll := ⟨211, Tryz.f211, Tryz.f211.body.getD .skip, Tryz.func211, by kernel_rfl, stat211, has211⟩
noncomputable def row212 : FnRow Tryz.prog btAll := ⟨212, Tryz.f212, Tryz.f212.body.getD .skip, Tryz.func212, by kernel_rfl, stat212, has212⟩
noncomputable def row213 : FnRow Tryz.prog btAll := ⟨213, Tryz.f213, Tryz.f213.body.getD .skip, Tryz.func213, by kernel_rfl, stat213, has213⟩
noncomputable def row214 : FnRow Tryz.prog btAll := ⟨214, Tryz.f214, Tryz.f214.body.getD .skip, Tryz.func214, by kernel_rfl, stat214, has214⟩
noncomputable def row215 : FnRow Tryz.prog btAll := ⟨215, Tryz.f215, Tryz.f215.body.getD .skip, Tryz.func215, by kernel_rfl, stat215, has215⟩
noncomputable def row216 : FnRow Tryz.prog btAll := ⟨216, Tryz.f216, Tryz.f216.body.getD .skip, Tryz.func216, by kernel_rfl, stat216, has216⟩
noncomputable def row217 : FnRow Tryz.prog btAll := ⟨217, Tryz.f217, Tryz.f217.body.getD .skip, Tryz.func217, by kernel_rfl, stat217, has217⟩
noncomputable def row218 : FnRow Tryz.prog btAll := ⟨218, Tryz.f218, Tryz.f218.body.getD .skip, Tryz.func218, by kernel_rfl, stat218, has218⟩
noncomputable def row219 : FnRow Tryz.prog btAll := ⟨219, Tryz.f219, Tryz.f219.body.getD .skip, Tryz.func219, by kernel_rfl, stat219, has219⟩
noncomputable def row220 : FnRow Tryz.prog btAll := ⟨220, Tryz.f220, Tryz.f220.body.getD .skip, Tryz.func220, by kernel_rfl, stat220, has220⟩
noncomputable def row221 : FnRow Tryz.prog btAll := ⟨221, Tryz.f221, Tryz.f221.body.getD .skip, Tryz.func221, by kernel_rfl, stat221, has221⟩
noncomputable def row222 : FnRow Tryz.prog btAll := ⟨222, Tryz.f222, Tryz.f222.body.getD .skip, Tryz.func222, by kernel_rfl, stat222, has222⟩
noncomputable def row223 : FnRow Tryz.prog btAll := ⟨223, Tryz.f223, Tryz.f223.body.getD .skip, Tryz.func223, by kernel_rfl, stat223, has223⟩
noncomputable def row224 : FnRow Tryz.prog btAll := ⟨224, Tryz.f224, Tryz.f224.body.getD .skip, Tryz.func224, by kernel_rfl, stat224, has224⟩
noncomputable def row225 : FnRow Tryz.prog btAll := ⟨225, Tryz.f225, Tryz.f225.body.getD .skip, Tryz.func225, by kernel_rfl, stat225, has225⟩
noncomputable def row226 : FnRow Tryz.prog btAll := ⟨226, Tryz.f226, Tryz.f226.body.getD .skip, Tryz.func226, by kernel_rfl, stat226, has226⟩
noncomputable def row227 : FnRow Tryz.prog btAll := ⟨227, Tryz.f227, Tryz.f227.body.getD .skip, Tryz.func227, by kernel_rfl, stat227, has227⟩
noncomputable def row228 : FnRow Tryz.prog btAll := ⟨228, Tryz.f228, Tryz.f228.body.getD .skip, Tryz.func228, by kernel_rfl, stat228, has228⟩
noncomputable def row229 : FnRow Tryz.prog btAll := ⟨229, Tryz.f229, Tryz.f229.body.getD .skip, Tryz.func229, by kernel_rfl, stat229, has229⟩
noncomputable def row230 : FnRow Tryz.prog btAll := ⟨230, Tryz.f230, Tryz.f230.body.getD .skip, Tryz.func230, by kernel_rfl, stat230, has230⟩
noncomputable def row231 : FnRow Tryz.prog btAll := ⟨231, Tryz.f231, Tryz.f231.body.getD .skip, Tryz.func231, by kernel_rfl, stat231, has231⟩
noncomputable def row232 : FnRow Tryz.prog btAll := ⟨232, Tryz.f232, Tryz.f232.body.getD .skip, Tryz.func232, by kernel_rfl, stat232, has232⟩
noncomputable def row233 : FnRow Tryz.prog btAll := ⟨233, Tryz.f233, Tryz.f233.body.getD .skip, Tryz.func233, by kernel_rfl, stat233, has233⟩
noncomputable def row234 : FnRow Tryz.prog btAll := ⟨234, Tryz.f234, Tryz.f234.body.getD .skip, Tryz.func234, by kernel_rfl, stat234, has234⟩
noncomputable def row235 : FnRow Tryz.prog btAll := ⟨235, Tryz.f235, Tryz.f235.body.getD .skip, Tryz.func235, by kernel_rfl, stat235, has235⟩
noncomputable def row236 : FnRow Tryz.prog btAll := ⟨236, Tryz.f236, Tryz.f236.body.getD .skip, Tryz.func236, by kernel_rfl, stat236, has236⟩
noncomputable def row237 : FnRow Tryz.prog btAll := ⟨237, Tryz.f237, Tryz.f237.body.getD .skip, Tryz.func237, by kernel_rfl, stat237, has237⟩
noncomputable def row238 : FnRow Tryz.prog btAll := ⟨238, Tryz.f238, Tryz.f238.body.getD .skip, Tryz.func238, by kernel_rfl, stat238, has238⟩
noncomputable def row239 : FnRow Tryz.prog btAll := ⟨239, Tryz.f239, Tryz.f239.body.getD .skip, Tryz.func239, by kernel_rfl, stat239, has239⟩
noncomputable def row240 : FnRow Tryz.prog btAll := ⟨240, Tryz.f240, Tryz.f240.body.getD .skip, Tryz.func240, by kernel_rfl, stat240, has240⟩
noncomputable def row241 : FnRow Tryz.prog btAll := ⟨241, Tryz.f241, Tryz.f241.body.getD .skip, Tryz.func241, by kernel_rfl, stat241, has241⟩
noncomputable def row242 : FnRow Tryz.prog btAll := ⟨242, Tryz.f242, Tryz.f242.body.getD .skip, Tryz.func242, by kernel_rfl, stat242, has242⟩
noncomputable def row243 : FnRow Tryz.prog btAll := ⟨243, Tryz.f243, Tryz.f243.body.getD .skip, Tryz.func243, by kernel_rfl, stat243, has243⟩
noncomputable def row244 : FnRow Tryz.prog btAll := ⟨244, Tryz.f244, Tryz.f244.body.getD .skip, Tryz.func244, by kernel_rfl, stat244, has244⟩
noncomputable def row245 : FnRow Tryz.prog btAll := ⟨245, Tryz.f245, Tryz.f245.body.getD .skip, Tryz.func245, by kernel_rfl, stat245, has245⟩
noncomputable def row246 : FnRow Tryz.prog btAll := ⟨246, Tryz.f246, Tryz.f246.body.getD .skip, Tryz.func246, by kernel_rfl, stat246, has246⟩
noncomputable def row247 : FnRow Tryz.prog btAll := ⟨247, Tryz.f247, Tryz.f247.body.getD .skip, Tryz.func247, by kernel_rfl, stat247, has247⟩
noncomputable def row248 : FnRow Tryz.prog btAll := ⟨248, Tryz.f248, Tryz.f248.body.getD .skip, Tryz.func248, by kernel_rfl, stat248, has248⟩
noncomputable def row249 : FnRow Tryz.prog btAll := ⟨249, Tryz.f249, Tryz.f249.body.getD .skip, Tryz.func249, by kernel_rfl, stat249, has249⟩
noncomputable def row250 : FnRow Tryz.prog btAll := ⟨250, Tryz.f250, Tryz.f250.body.getD .skip, Tryz.func250, by kernel_rfl, stat250, has250⟩
noncomputable def row251 : FnRow Tryz.prog btAll := ⟨251, Tryz.f251, Tryz.f251.body.getD .skip, Tryz.func251, by kernel_rfl, stat251, has251⟩
noncomputable def row252 : FnRow Tryz.prog btAll := ⟨252, Tryz.f252, Tryz.f252.body.getD .skip, Tryz.func252, by kernel_rfl, stat252, has252⟩
noncomputable def row253 : FnRow Tryz.prog btAll := ⟨253, Tryz.f253, Tryz.f253.body.getD .skip, Tryz.func253, by kernel_rfl, stat253, has253⟩
noncomputable def row254 : FnRow Tryz.prog btAll := ⟨254, Tryz.f254, Tryz.f254.body.getD .skip, Tryz.func254, by kernel_rfl, stat254, has254⟩
noncomputable def row255 : FnRow Tryz.prog btAll := ⟨255, Tryz.f255, Tryz.f255.body.getD .skip, Tryz.func255, by kernel_rfl, stat255, has255⟩
noncomputable def row256 : FnRow Tryz.prog btAll := ⟨256, Tryz.f256, Tryz.f256.body.getD .skip, Tryz.func256, by kernel_rfl, stat256, has256⟩
noncomputable def row257 : FnRow Tryz.prog btAll := ⟨257, Tryz.f257, Tryz.f257.body.getD .skip, Tryz.func257, by kernel_rfl, stat257, has257⟩
noncomputable def row258 : FnRow Tryz.prog btAll := ⟨258, Tryz.f258, Tryz.f258.body.getD .skip, Tryz.func258, by kernel_rfl, stat258, has258⟩
noncomputable def row259 : FnRow Tryz.prog btAll := ⟨259, Tryz.f259, Tryz.f259.body.getD .skip, Tryz.func259, by kernel_rfl, stat259, has259⟩
noncomputable def row260 : FnRow Tryz.prog btAll := ⟨260, Tryz.f260, Tryz.f260.body.getD .skip, Tryz.func260, by kernel_rfl, stat260, has260⟩
noncomputable def row261 : FnRow Tryz.prog btAll := ⟨261, Tryz.f261, Tryz.f261.body.getD .skip, Tryz.func261, by kernel_rfl, stat261, has261⟩
noncomputable def row262 : FnRow Tryz.prog btAll := ⟨262, Tryz.f262, Tryz.f262.body.getD .skip, Tryz.func262, by kernel_rfl, stat262, has262⟩
noncomputable def row263 : FnRow Tryz.prog btAll := ⟨263, Tryz.f263, Tryz.f263.body.getD .skip, Tryz.func263, by kernel_rfl, stat263, has263⟩
noncomputable def row264 : FnRow Tryz.prog btAll := ⟨264, Tryz.f264, Tryz.f264.body.getD .skip, Tryz.func264, by kernel_rfl, stat264, has264⟩
noncomputable def row265 : FnRow Tryz.prog btAll := ⟨265, Tryz.f265, Tryz.f265.body.getD .skip, Tryz.func265, by kernel_rfl, stat265, has265⟩
noncomputable def row266 : FnRow Tryz.prog btAll := ⟨266, Tryz.f266, Tryz.f266.body.getD .skip, Tryz.func266, by kernel_rfl, stat266, has266⟩
noncomputable def row267 : FnRow Tryz.prog btAll := ⟨267, Tryz.f267, Tryz.f267.body.getD .skip, Tryz.func267, by kernel_rfl, stat267, has267⟩
noncomputable def row268 : FnRow Tryz.prog btAll := ⟨268, Tryz.f268, Tryz.f268.body.getD .skip, Tryz.func268, by kernel_rfl, stat268, has268⟩
noncomputable def row269 : FnRow Tryz.prog btAll := ⟨269, Tryz.f269, Tryz.f269.body.getD .skip, Tryz.func269, by kernel_rfl, stat269, has269⟩
noncomputable def row270 : FnRow Tryz.prog btAll := ⟨270, Tryz.f270, Tryz.f270.body.getD .skip, Tryz.func270, by kernel_rfl, stat270, has270⟩
noncomputable def row271 : FnRow Tryz.prog btAll := ⟨271, Tryz.f271, Tryz.f271.body.getD .skip, Tryz.func271, by kernel_rfl, stat271, has271⟩
noncomputable def row272 : FnRow Tryz.prog btAll := ⟨272, Tryz.f272, Tryz.f272.body.getD .skip, Tryz.func272, by kernel_rfl, stat272, has272⟩
noncomputable def row273 : FnRow Tryz.prog btAll := ⟨273, Tryz.f273, Tryz.f273.body.getD .skip, Tryz.func273, by kernel_rfl, stat273, has273⟩
noncomputable def row274 : FnRow Tryz.prog btAll := ⟨274, Tryz.f274, Tryz.f274.body.getD .skip, Tryz.func274, by kernel_rfl, stat274, has274⟩
noncomputable def row275 : FnRow Tryz.prog btAll := ⟨275, Tryz.f275, Tryz.f275.body.getD .skip, Tryz.func275, by kernel_rfl, stat275, has275⟩
noncomputable def row276 : FnRow Tryz.prog btAll := ⟨276, Tryz.f276, Tryz.f276.body.getD .skip, Tryz.func276, by kernel_rfl, stat276, has276⟩
noncomputable def row277 : FnRow Tryz.prog btAll := ⟨277, Tryz.f277, Tryz.f277.body.getD .skip, Tryz.func277, by kernel_rfl, stat277, has277⟩
noncomputable def row278 : FnRow Tryz.prog btAll := ⟨278, Tryz.f278, Tryz.f278.body.getD .skip, Tryz.func278, by kernel_rfl, stat278, has278⟩
noncomputable def row279 : FnRow Tryz.prog btAll := ⟨279, Tryz.f279, Tryz.f279.body.getD .skip, Tryz.func279, by kernel_rfl, stat279, has279⟩
noncomputable def row280 : FnRow Tryz.prog btAll := ⟨280, Tryz.f280, Tryz.f280.body.getD .skip, Tryz.func280, by kernel_rfl, stat280, has280⟩
noncomputable def row281 : FnRow Tryz.prog btAll := ⟨281, Tryz.f281, Tryz.f281.body.getD .skip, Tryz.func281, by kernel_rfl, stat281, has281⟩
noncomputable def row282 : FnRow Tryz.prog btAll := ⟨282, Tryz.f282, Tryz.f282.body.getD .skip, Tryz.func282, by kernel_rfl, stat282, has282⟩
noncomputable def row283 : FnRow Tryz.prog btAll := ⟨283, Tryz.f283, Tryz.f283.body.getD .skip, Tryz.func283, by kernel_rfl, stat283, has283⟩
noncomputable def row284 : FnRow Tryz.prog btAll := ⟨284, Tryz.f284, Tryz.f284.body.getD .skip, Tryz.func284, by kernel_rfl, stat284, has284⟩
noncomputable def row285 : FnRow Tryz.prog btAll := ⟨285, Tryz.f285, Tryz.f285.body.getD .skip, Tryz.func285, by kernel_rfl, stat285, has285⟩
noncomputable def row286 : FnRow Tryz.prog btAll := ⟨286, Tryz.f286, Tryz.f286.body.getD .skip, Tryz.func286, by kernel_rfl, stat286, has286⟩
noncomputable def row287 : FnRow Tryz.prog btAll := ⟨287, Tryz.f287, Tryz.f287.body.getD .skip, Tryz.func287, by kernel_rfl, stat287, has287⟩
noncomputable def row288 : FnRow Tryz.prog btAll := ⟨288, Tryz.f288, Tryz.f288.body.getD .skip, Tryz.func288, by kernel_rfl, stat288, has288⟩
noncomputable def row289 : FnRow Tryz.prog btAll := ⟨289, Tryz.f289, Tryz.f289.body.getD .skip, Tryz.func289, by kernel_rfl, stat289, has289⟩
noncomputable def row290 : FnRow Tryz.prog btAll := ⟨290, Tryz.f290, Tryz.f290.body.getD .skip, Tryz.func290, by kernel_rfl, stat290, has290⟩
noncomputable def row291 : FnRow Tryz.prog btAll := ⟨291, Tryz.f291, Tryz.f291.body.getD .skip, Tryz.func291, by kernel_rfl, stat291, has291⟩
noncomputable def row292 : FnRow Tryz.prog btAll := ⟨292, Tryz.f292, Tryz.f292.body.getD .skip, Tryz.func292, by kernel_rfl, stat292, has292⟩
noncomputable def row293 : FnRow Tryz.prog btAll := ⟨293, Tryz.f293, Tryz.f293.body.getD .skip, Tryz.func293, by kernel_rfl, stat293, has293⟩
noncomputable def row294 : FnRow Tryz.prog btAll := ⟨294, Tryz.f294, Tryz.f294.body.getD .skip, Tryz.func294, by kernel_rfl, stat294, has294⟩
noncomputable def row295 : FnRow Tryz.prog btAll := ⟨295, Tryz.f295, Tryz.f295.body.getD .skip, Tryz.func295, by kernel_rfl, stat295, has295⟩
noncomputable def row296 : FnRow Tryz.prog btAll := ⟨296, Tryz.f296, Tryz.f296.body.getD .skip, Tryz.func296, by kernel_rfl, stat296, has296⟩
noncomputable def row297 : FnRow Tryz.prog btAll := ⟨297, Tryz.f297, Tryz.f297.body.getD .skip, Tryz.func297, by kernel_rfl, stat297, has297⟩
noncomputable def row298 : FnRow Tryz.prog btAll := ⟨298, Tryz.f298, Tryz.f298.body.getD .skip, Tryz.func298, by kernel_rfl, stat298, has298⟩
noncomputable def row299 : FnRow Tryz.prog btAll := ⟨299, Tryz.f299, Tryz.f299.body.getD .skip, Tryz.func299, by kernel_rfl, stat299, has299⟩
noncomputable def row300 : FnRow Tryz.prog btAll := ⟨300, Tryz.f300, Tryz.f300.body.getD .skip, Tryz.func300, by kernel_rfl, stat300, has300⟩
noncomputable def row301 : FnRow Tryz.prog btAll := ⟨301, Tryz.f301, Tryz.f301.body.getD .skip, Tryz.func301, by kernel_rfl, stat301, has301⟩
noncomputable def row302 : FnRow Tryz.prog btAll := ⟨302, Tryz.f302, Tryz.f302.body.getD .skip, Tryz.func302, by kernel_rfl, stat302, has302⟩
noncomputable def row303 : FnRow Tryz.prog btAll := ⟨303, Tryz.f303, Tryz.f303.body.getD .skip, Tryz.func303, by kernel_rfl, stat303, has303⟩
noncomputable def row304 : FnRow Tryz.prog btAll := ⟨304, Tryz.f304, Tryz.f304.body.getD .skip, Tryz.func304, by kernel_rfl, stat304, has304⟩
noncomputable def row305 : FnRow Tryz.prog btAll := ⟨305, Tryz.f305, Tryz.f305.body.getD .skip, Tryz.func305, by kernel_rfl, stat305, has305⟩
noncomputable def row306 : FnRow Tryz.prog btAll := ⟨306, Tryz.f306, Tryz.f306.body.getD .skip, Tryz.func306, by kernel_rfl, stat306, has306⟩
noncomputable def row307 : FnRow Tryz.prog btAll := ⟨307, Tryz.f307, Tryz.f307.body.getD .skip, Tryz.func307, by kernel_rfl, stat307, has307⟩
noncomputable def row308 : FnRow Tryz.prog btAll := ⟨308, Tryz.f308, Tryz.f308.body.getD .skip, Tryz.func308, by kernel_rfl, stat308, has308⟩
noncomputable def row309 : FnRow Tryz.prog btAll := ⟨309, Tryz.f309, Tryz.f309.body.getD .skip, Tryz.func309, by kernel_rfl, stat309, has309⟩
noncomputable def row310 : FnRow Tryz.prog btAll := ⟨310, Tryz.f310, Tryz.f310.body.getD .skip, Tryz.func310, by kernel_rfl, stat310, has310⟩
noncomputable def row311 : FnRow Tryz.prog btAll := ⟨311, Tryz.f311, Tryz.f311.body.getD .skip, Tryz.func311, by kernel_rfl, stat311, has311⟩
noncomputable def row312 : FnRow Tryz.prog btAll := ⟨312, Tryz.f312, Tryz.f312.body.getD .skip, Tryz.func312, by kernel_rfl, stat312, has312⟩
noncomputable def row313 : FnRow Tryz.prog btAll := ⟨313, Tryz.f313, Tryz.f313.body.getD .skip, Tryz.func313, by kernel_rfl, stat313, has313⟩
noncomputable def row314 : FnRow Tryz.prog btAll := ⟨314, Tryz.f314, Tryz.f314.body.getD .skip, Tryz.func314, by kernel_rfl, stat314, has314⟩
noncomputable def row315 : FnRow Tryz.prog btAll := ⟨315, Tryz.f315, Tryz.f315.body.getD .skip, Tryz.func315, by kernel_rfl, stat315, has315⟩
noncomputable def row316 : FnRow Tryz.prog btAll := ⟨316, Tryz.f316, Tryz.f316.body.getD .skip, Tryz.func316, by kernel_rfl, stat316, has316⟩
noncomputable def row317 : FnRow Tryz.prog btAll := ⟨317, Tryz.f317, Tryz.f317.body.getD .skip, Tryz.func317, by kernel_rfl, stat317, has317⟩
noncomputable def row318 : FnRow Tryz.prog btAll := ⟨318, Tryz.f318, Tryz.f318.body.getD .skip, Tryz.func318, by kernel_rfl, stat318, has318⟩
noncomputable def row320 : FnRow Tryz.prog btAll := ⟨320, Tryz.f320, Tryz.f320.body.getD .skip, Tryz.func320, by kernel_rfl, stat320, has320⟩
noncomputable def row321 : FnRow Tryz.prog btAll := ⟨321, Tryz.f321, Tryz.f321.body.getD .skip, Tryz.func321, by kernel_rfl, stat321, has321⟩
noncomputable def row322 : FnRow Tryz.prog btAll := ⟨322, Tryz.f322, Tryz.f322.body.getD .skip, Tryz.func322, by kernel_rfl, stat322, has322⟩
noncomputable def row323 : FnRow Tryz.prog btAll := ⟨323, Tryz.f323, Tryz.f323.body.getD .skip, Tryz.func323, by kernel_rfl, stat323, has323⟩
noncomputable def row324 : FnRow Tryz.prog btAll := ⟨324, Tryz.f324, Tryz.f324.body.getD .skip, Tryz.func324, by kernel_rfl, stat324, has324⟩
noncomputable def row325 : FnRow Tryz.prog btAll := ⟨325, Tryz.f325, Tryz.f325.body.getD .skip, Tryz.func325, by kernel_rfl, stat325, has325⟩
noncomputable def row326 : FnRow Tryz.prog btAll := ⟨326, Tryz.f326, Tryz.f326.body.getD .skip, Tryz.func326, by kernel_rfl, stat326, has326⟩
noncomputable def row327 : FnRow Tryz.prog btAll := ⟨327, Tryz.f327, Tryz.f327.body.getD .skip, Tryz.func327, by kernel_rfl, stat327, has327⟩
noncomputable def row328 : FnRow Tryz.prog btAll := ⟨328, Tryz.f328, Tryz.f328.body.getD .skip, Tryz.func328, by kernel_rfl, stat328, has328⟩
noncomputable def row329 : FnRow Tryz.prog btAll := ⟨329, Tryz.f329, Tryz.f329.body.getD .skip, Tryz.func329, by kernel_rfl, stat329, has329⟩
noncomputable def row330 : FnRow Tryz.prog btAll := ⟨330, Tryz.f330, Tryz.f330.body.getD .skip, Tryz.func330, by kernel_rfl, stat330, has330⟩
noncomputable def row331 : FnRow Tryz.prog btAll := ⟨331, Tryz.f331, Tryz.f331.body.getD .skip, Tryz.func331, by kernel_rfl, stat331, has331⟩
noncomputable def row332 : FnRow Tryz.prog btAll := ⟨332, Tryz.f332, Tryz.f332.body.getD .skip, Tryz.func332, by kernel_rfl, stat332, has332⟩
noncomputable def row333 : FnRow Tryz.prog btAll := ⟨333, Tryz.f333, Tryz.f333.body.getD .skip, Tryz.func333, by kernel_rfl, stat333, has333⟩
noncomputable def row334 : FnRow Tryz.prog btAll := ⟨334, Tryz.f334, Tryz.f334.body.getD .skip, Tryz.func334, by kernel_rfl, stat334, has334⟩
noncomputable def row335 : FnRow Tryz.prog btAll := ⟨335, Tryz.f335, Tryz.f335.body.getD .skip, Tryz.func335, by kernel_rfl, stat335, has335⟩
noncomputable def row336 : FnRow Tryz.prog btAll := ⟨336, Tryz.f336, Tryz.f336.body.getD .skip, Tryz.func336, by kernel_rfl, stat336, has336⟩
noncomputable def row337 : FnRow Tryz.prog btAll := ⟨337, Tryz.f337, Tryz.f337.body.getD .skip, Tryz.func337, by kernel_rfl, stat337, has337⟩
noncomputable def row338 : FnRow Tryz.prog btAll := ⟨338, Tryz.f338, Tryz.f338.body.getD .skip, Tryz.func338, by kernel_rfl, stat338, has338⟩
noncomputable def row339 : FnRow Tryz.prog btAll := ⟨339, Tryz.f339, Tryz.f339.body.getD .skip, Tryz.func339, by kernel_rfl, stat339, has339⟩
noncomputable def row340 : FnRow Tryz.prog btAll := ⟨340, Tryz.f340, Tryz.f340.body.getD .skip, Tryz.func340, by kernel_rfl, stat340, has340⟩
noncomputable def row341 : FnRow Tryz.prog btAll := ⟨341, Tryz.f341, Tryz.f341.body.getD .skip, Tryz.func341, by kernel_rfl, stat341, has341⟩
noncomputable def row342 : FnRow Tryz.prog btAll := ⟨342, Tryz.f342, Tryz.f342.body.getD .skip, Tryz.func342, by kernel_rfl, stat342, has342⟩
noncomputable def row343 : FnRow Tryz.prog btAll := ⟨343, Tryz.f343, Tryz.f343.body.getD .skip, Tryz.func343, by kernel_rfl, stat343, has343⟩
noncomputable def row344 : FnRow Tryz.prog btAll := ⟨344, Tryz.f344, Tryz.f344.body.getD .skip, Tryz.func344, by kernel_rfl, stat344, has344⟩
noncomputable def row345 : FnRow Tryz.prog btAll := ⟨345, Tryz.f345, Tryz.f345.body.getD .skip, Tryz.func345, by kernel_rfl, stat345, has345⟩
noncomputable def row346 : FnRow Tryz.prog btAll := ⟨346, Tryz.f346, Tryz.f346.body.getD .skip, Tryz.func346, by kernel_rfl, stat346, has346⟩
noncomputable def row347 : FnRow Tryz.prog btAll := ⟨347, Tryz.f347, Tryz.f347.body.getD .skip, Tryz.func347, by kernel_rfl, stat347, has347⟩
noncomputable def row349 : FnRow Tryz.prog btAll := ⟨349, Tryz.f349, Tryz.f349.body.getD .skip, Tryz.func349, by kernel_rfl, stat349, has349⟩
noncomputable def row350 : FnRow Tryz.prog btAll := ⟨350, Tryz.f350, Tryz.f350.body.getD .skip, Tryz.func350, by kernel_rfl, stat350, has350⟩
noncomputable def row351 : FnRow Tryz.prog btAll := ⟨351, Tryz.f351, Tryz.f351.body.getD .skip, Tryz.func351, by kernel_rfl, stat351, has351⟩
noncomputable def row352 : FnRow Tryz.prog btAll := ⟨352, Tryz.f352, Tryz.f352.body.getD .skip, Tryz.func352, by kernel_rfl, stat352, has352⟩
noncomputable def row355 : FnRow Tryz.prog btAll := ⟨355, Tryz.f355, Tryz.f355.body.getD .skip, Tryz.func355, by kernel_rfl, stat355, has355⟩
noncomputable def row356 : FnRow Tryz.prog btAll := ⟨356, Tryz.f356, Tryz.f356.body.getD .skip, Tryz.func356, by kernel_rfl, stat356, has356⟩
noncomputable def row357 : FnRow Tryz.prog btAll := ⟨357, Tryz.f357, Tryz.f357.body.getD .skip, Tryz.func357, by kernel_rfl, stat357, has357⟩
noncomputable def row358 : FnRow Tryz.prog btAll := ⟨358, Tryz.f358, Tryz.f358.body.getD .skip, Tryz.func358, by kernel_rfl, stat358, has358⟩
noncomputable def row359 : FnRow Tryz.prog btAll := ⟨359, Tryz.f359, Tryz.f359.body.getD .skip, Tryz.func359, by kernel_rfl, stat359, has359⟩
noncomputable def row360 : FnRow Tryz.prog btAll := ⟨360, Tryz.f360, Tryz.f360.body.getD .skip, Tryz.func360, by kernel_rfl, stat360, has360⟩
noncomputable def row361 : FnRow Tryz.prog btAll := ⟨361, Tryz.f361, Tryz.f361.body.getD .skip, Tryz.func361, by kernel_rfl, stat361, has361⟩
noncomputable def row362 : FnRow Tryz.prog btAll := ⟨362, Tryz.f362, Tryz.f362.body.getD .skip, Tryz.func362, by kernel_rfl, stat362, has362⟩
noncomputable def row363 : FnRow Tryz.prog btAll := ⟨363, Tryz.f363, Tryz.f363.body.getD .skip, Tryz.func363, by kernel_rfl, stat363, has363⟩
noncomputable def row364 : FnRow Tryz.prog btAll := ⟨364, Tryz.f364, Tryz.f364.body.getD .skip, Tryz.func364, by kernel_rfl, stat364, has364⟩
noncomputable def row365 : FnRow Tryz.prog btAll := ⟨365, Tryz.f365, Tryz.f365.body.getD .skip, Tryz.func365, by kernel_rfl, stat365, has365⟩
noncomputable def row366 : FnRow Tryz.prog btAll := ⟨366, Tryz.f366, Tryz.f366.body.getD .skip, Tryz.func366, by kernel_rfl, stat366, has366⟩
noncomputable def row367 : FnRow Tryz.prog btAll := ⟨367, Tryz.f367, Tryz.f367.body.getD .skip, Tryz.func367, by kernel_rfl, stat367, has367⟩
noncomputable def row372 : FnRow Tryz.prog btAll := ⟨372, Tryz.f372, Tryz.f372.body.getD .skip, Tryz.func372, by kernel_rfl, stat372, has372⟩
noncomputable def row375 : FnRow Tryz.prog btAll := ⟨375, Tryz.f375, Tryz.f375.body.getD .skip, Tryz.func375, by kernel_rfl, stat375, has375⟩
noncomputable def row376 : FnRow Tryz.prog btAll := ⟨376, Tryz.f376, Tryz.f376.body.getD .skip, Tryz.func376, by kernel_rfl, stat376, has376⟩
noncomputable def row377 : FnRow Tryz.prog btAll := ⟨377, Tryz.f377, Tryz.f377.body.getD .skip, Tryz.func377, by kernel_rfl, stat377, has377⟩
noncomputable def row378 : FnRow Tryz.prog btAll := ⟨378, Tryz.f378, Tryz.f378.body.getD .skip, Tryz.func378, by kernel_rfl, stat378, has378⟩
noncomputable def row379 : FnRow Tryz.prog btAll := ⟨379, Tryz.f379, Tryz.f379.body.getD .skip, Tryz.func379, by kernel_rfl, stat379, has379⟩
noncomputable def row380 : FnRow Tryz.prog btAll := ⟨380, Tryz.f380, Tryz.f380.body.getD .skip, Tryz.func380, by kernel_rfl, stat380, has380⟩
noncomputable def row381 : FnRow Tryz.prog btAll := ⟨381, Tryz.f381, Tryz.f381.body.getD .skip, Tryz.func381, by kernel_rfl, stat381, has381⟩
noncomputable def row389 : FnRow Tryz.prog btAll := ⟨389, Tryz.f389, Tryz.f389.body.getD .skip, Tryz.func389, by kernel_rfl, stat389, has389⟩
noncomputable def row390 : FnRow Tryz.prog btAll := ⟨390, Tryz.f390, Tryz.f390.body.getD .skip, Tryz.func390, by kernel_rfl, stat390, has390⟩
noncomputable def fnTree : BT (FnRow Tryz.prog btAll) := (.node (.node (.node (.node (.node (.node (.node (.node (.node .leaf none (.node .leaf (some row256) .leaf)) none (.node .leaf (some row128) .leaf)) none (.node (.node .leaf none (.node .leaf (some row320) .leaf)) (some row64) (.node .leaf (some row192) .leaf))) none (.node (.node (.node .leaf none (.node .leaf (some row288) .leaf)) none (.node .leaf (some row160) .leaf)) (some row32) (.node (.node .leaf none (.node .leaf (some row352) .leaf)) (some row96) (.node .leaf (some row224) .leaf)))) none (.node (.node (.node (.node .leaf none (.node .leaf (some row272) .leaf)) none (.node .leaf (some row144) .leaf)) none (.node (.node .leaf none (.node .leaf (some row336) .leaf)) (some row80) (.node .leaf (some row208) .leaf))) (some row16) (.node (.node (.node .leaf none (.node .leaf (some row304) .leaf)) none (.node .leaf (some row176) .leaf)) (some row48) (.node .leaf (some row112) (.node .leaf (some row240) .leaf))))) none (.node (.node (.node (.node (.node .leaf none (.node .leaf (some row264) .leaf)) none (.node .leaf (some row136) .leaf)) none (.node (.node .leaf none (.node .leaf (some row328) .leaf)) (some row72) (.node .leaf (some row200) .leaf))) none (.node (.node (.node .leaf none (.node .leaf (some row296) .leaf)) none (.node .leaf (some row168) .leaf)) (some row40) (.node (.node .leaf none (.node .leaf (some row360) .leaf)) (some row104) (.node .leaf (some row232) .leaf)))) (some row8) (.node (.node (.node (.node .leaf none (.node .leaf (some row280) .leaf)) none (.node .leaf (some row152) .leaf)) none (.node (.node .leaf none (.node .leaf (some row344) .leaf)) (some row88) (.node .leaf (some row216) .leaf))) (some row24) (.node (.node (.node .leaf none (.node .leaf (some row312) .leaf)) none (.node .leaf (some row184) .leaf)) (some row56) (.node (.node .leaf none (.node .leaf (some row376) .leaf)) (some row120) (.node .leaf (some row248) .leaf)))))) none (.node (.node (.node (.node (.node (.node .leaf none (.node .leaf (some row260) .leaf)) none (.node .leaf (some row132) .leaf)) none (.node (.node .leaf none (.node .leaf (some row324) .leaf)) (some row68) (.node .leaf (some row196) .leaf))) none (.node (.node (.node .leaf none (.node .leaf (some row292) .leaf)) none (.node .leaf (some row164) .leaf)) (some row36) (.node (.node .leaf none (.node .leaf (some row356) .leaf)) (some row100) (.node .leaf (some row228) .leaf)))) none (.node (.node (.node (.node .leaf none (.node .leaf (some row276) .leaf)) none (.node .leaf (some row148) .leaf)) none (.node (.node .leaf none (.node .leaf (some row340) .leaf)) (some row84) (.node .leaf (some row212) .leaf))) (some row20) (.node (.node (.node .leaf none (.node .leaf (some row308) .leaf)) none (.node .leaf (some row180) .leaf)) (some row52) (.node (.node .leaf none (.node .leaf (some row372) .leaf)) (some row116) (.node .leaf (some row244) .leaf))))) (some row4) (.node (.node (.node (.node (.node .leaf none (.node .leaf (some row268) .leaf)) none (.node .leaf (some row140) .leaf)) none (.node (.node .leaf none (.node .leaf (some row332) .leaf)) (some row76) (.node .leaf (some row204) .leaf))) none (.node (.node (.node .leaf none (.node .leaf (some row300) .leaf)) none (.node .leaf (some row172) .leaf)) (some row44) (.node (.node .leaf none (.node .leaf (some row364) .leaf)) (some row108) (.node .leaf (some row236) .leaf)))) (some row12) (.node (.node (.node (.node .leaf none (.node .leaf (some row284) .leaf)) none (.node .leaf (some row156) .leaf)) none (.node .leaf (some row92) (.node .leaf (some row220) .leaf))) (some row28) (.node (.node (.node .leaf none (.node .leaf (some row316) .leaf)) none .leaf) (some row60) (.node (.node .leaf none (.node .leaf (some row380) .leaf)) none (.node .leaf (some row252) .leaf))))))) none (.node (.node (.node (.node (.node (.node (.node .leaf none (.node .leaf (some row258) .leaf)) none (.node .leaf (some row130) .leaf)) none (.node (.node .leaf none (.node .leaf (some row322) .leaf)) (some row66) (.node .leaf (some row194) .leaf))) none (.node (.node (.node .leaf none (.node .leaf (some row290) .leaf)) none (.node .leaf (some row162) .leaf)) (some row34) (.node .leaf (some row98) (.node .leaf (some row226) .leaf)))) none (.node (.node (.node (.node .leaf none (.node .leaf (some row274) .leaf)) none (.node .leaf (some row146) .leaf)) none (.node (.node .leaf none (.node .leaf (some row338) .leaf)) (some row82) (.node .leaf (some row210) .leaf))) (some row18) (.node (.node (.node .leaf none (.node .leaf (some row306) .leaf)) none (.node .leaf (some row178) .leaf)) (some row50) (.node .leaf (some row114) (.node .leaf (some row242) .leaf))))) none (.node (.node (.node (.node (.node .leaf none (.node .leaf (some row266) .leaf)) none (.node .leaf (some row138) .leaf)) none (.node (.node .leaf none (.node .leaf (some row330) .leaf)) (some row74) (.node .leaf (some row202) .leaf))) none (.node (.node (.node .leaf none (.node .leaf (some row298) .leaf)) none (.node .leaf (some row170) .leaf)) (some row42) (.node (.node .leaf none (.node .leaf (some row362) .leaf)) (some row106) (.node .leaf (some row234) .leaf)))) (some row10) (.node (.node (.node (.node .leaf none (.node .leaf (some row282) .leaf)) none (.node .leaf (some row154) .leaf)) none (.node (.node .leaf none (.node .leaf (some row346) .leaf)) (some row90) (.node .leaf (some row218) .leaf))) (some row26) (.node (.node (.node .leaf none (.node .leaf (some row314) .leaf)) none (.node .leaf (some row186) .leaf)) (some row58) (.node (.node .leaf none (.node .leaf (some row378) .leaf)) none (.node .leaf (some row250) .leaf)))))) none (.node (.node (.node (.node (.node (.node .leaf none (.node .leaf (some row262) .leaf)) none (.node .leaf (some row134) (.node .leaf (some row390) .leaf))) none (.node (.node .leaf none (.node .leaf (some row326) .leaf)) (some row70) (.node .leaf (some row198) .leaf))) none (.node (.node (.node .leaf none (.node .leaf (some row294) .leaf)) none (.node .leaf (some row166) .leaf)) (some row38) (.node (.node .leaf none (.node .leaf (some row358) .leaf)) (some row102) (.node .leaf (some row230) .leaf)))) none (.node (.node (.node (.node .leaf none (.node .leaf (some row278) .leaf)) none (.node .leaf (some row150) .leaf)) none (.node (.node .leaf none (.node .leaf (some row342) .leaf)) (some row86) (.node .leaf (some row214) .leaf))) (some row22) (.node (.node (.node .leaf none (.node .leaf (some row310) .leaf)) none (.node .leaf (some row182) .leaf)) (some row54) (.node .leaf (some row118) (.node .leaf (some row246) .leaf))))) (some row6) (.node (.node (.node (.node (.node .leaf none (.node .leaf (some row270) .leaf)) none (.node .leaf (some row142) .leaf)) none (.node (.node .leaf none (.node .leaf (some row334) .leaf)) (some row78) (.node .leaf (some row206) .leaf))) none (.node (.node (.node .leaf none (.node .leaf (some row302) .leaf)) none (.node .leaf (some row174) .leaf)) (some row46) (.node (.node .leaf none (.node .leaf (some row366) .leaf)) (some row110) (.node .leaf (some row238) .leaf)))) (some row14) (.node (.node (.node (.node .leaf none (.node .leaf (some row286) .leaf)) none (.node .leaf (some row158) .leaf)) none (.node (.node .leaf none (.node .leaf (some row350) .leaf)) (some row94) (.node .leaf (some row222) .leaf))) (some row30) (.node (.node (.node .leaf none (.node .leaf (some row318) .leaf)) none (.node .leaf (some row190) .leaf)) (some row62) (.node .leaf (some row126) (.node .leaf (some row254) .leaf)))))))) none (.node (.node (.node (.node (.node (.node (.node (.node .leaf none (.node .leaf (some row257) .leaf)) none (.node .leaf (some row129) .leaf)) none (.node (.node .leaf none (.node .leaf (some row321) .leaf)) (some row65) (.node .leaf (some row193) .leaf))) none (.node (.node (.node .leaf none (.node .leaf (some row289) .leaf)) none (.node .leaf (some row161) .leaf)) (some row33) (.node .leaf (some row97) (.node .leaf (some row225) .leaf)))) none (.node (.node (.node (.node .leaf none (.node .leaf (some row273) .leaf)) none (.node .leaf (some row145) .leaf)) none (.node (.node .leaf none (.node .leaf (some row337) .leaf)) (some row81) (.node .leaf (some row209) .leaf))) (some row17) (.node (.node (.node .leaf none (.node .leaf (some row305) .leaf)) none (.node .leaf (some row177) .leaf)) (some row49) (.node .leaf (some row113) (.node .leaf (some row241) .leaf))))) none (.node (.node (.node (.node (.node .leaf none (.node .leaf (some row265) .leaf)) none (.node .leaf (some row137) .leaf)) none (.node (.node .leaf none (.node .leaf (some row329) .leaf)) (some row73) (.node .leaf (some row201) .leaf))) none (.node (.node (.node .leaf none (.node .leaf (some row297) .leaf)) none (.node .leaf (some row169) .leaf)) (some row41) (.node (.node .leaf none (.node .leaf (some row361) .leaf)) (some row105) (.node .leaf (some row233) .leaf)))) (some row9) (.node (.node (.node (.node .leaf none (.node .leaf (some row281) .leaf)) none (.node .leaf (some row153) .leaf)) none (.node (.node .leaf none (.node .leaf (some row345) .leaf)) (some row89) (.node .leaf (some row217) .leaf))) (some row25) (.node (.node (.node .leaf none (.node .leaf (some row313) .leaf)) none (.node .leaf (some row185) .leaf)) (some row57) (.node (.node .leaf none (.node .leaf (some row377) .leaf)) (some row121) (.node .leaf (some row249) .leaf)))))) none (.node (.node (.node (.node (.node (.node .leaf none (.node .leaf (some row261) .leaf)) none (.node .leaf (some row133) (.node .leaf (some row389) .leaf))) none (.node (.node .leaf none (.node .leaf (some row325) .leaf)) (some row69) (.node .leaf (some row197) .leaf))) none (.node (.node (.node .leaf none (.node .leaf (some row293) .leaf)) none (.node .leaf (some row165) .leaf)) (some row37) (.node (.node .leaf none (.node .leaf (some row357) .leaf)) (some row101) (.node .leaf (some row229) .leaf)))) none (.node (.node (.node (.node .leaf none (.node .leaf (some row277) .leaf)) none (.node .leaf (some row149) .leaf)) none (.node (.node .leaf none (.node .leaf (some row341) .leaf)) (some row85) (.node .leaf (some row213) .leaf))) (some row21) (.node (.node (.node .leaf none (.node .leaf (some row309) .leaf)) none (.node .leaf (some row181) .leaf)) (some row53) (.node .leaf (some row117) (.node .leaf (some row245) .leaf))))) (some row5) (.node (.node (.node (.node (.node .leaf none (.node .leaf (some row269) .leaf)) none (.node .leaf (some row141) .leaf)) none (.node (.node .leaf none (.node .leaf (some row333) .leaf)) (some row77) (.node .leaf (some row205) .leaf))) none (.node (.node (.node .leaf none (.node .leaf (some row301) .leaf)) none (.node .leaf (some row173) .leaf)) (some row45) (.node (.node .leaf none (.node .leaf (some row365) .leaf)) (some row109) (.node .leaf (some row237) .leaf)))) (some row13) (.node (.node (.node (.node .leaf none (.node .leaf (some row285) .leaf)) none (.node .leaf (some row157) .leaf)) none (.node (.node .leaf none (.node .leaf (some row349) .leaf)) (some row93) (.node .leaf (some row221) .leaf))) (some row29) (.node (.node (.node .leaf none (.node .leaf (some row317) .leaf)) none (.node .leaf (some row189) .leaf)) (some row61) (.node (.node .leaf none (.node .leaf (some row381) .leaf)) (some row125) (.node .leaf (some row253) .leaf))))))) none (.node (.node (.node (.node (.node (.node (.node .leaf none (.node .leaf (some row259) .leaf)) none (.node .leaf (some row131) .leaf)) none (.node (.node .leaf none (.node .leaf (some row323) .leaf)) (some row67) (.node .leaf (some row195) .leaf))) none (.node (.node (.node .leaf none (.node .leaf (some row291) .leaf)) none (.node .leaf (some row163) .leaf)) (some row35) (.node (.node .leaf none (.node .leaf (some row355) .leaf)) (some row99) (.node .leaf (some row227) .leaf)))) none (.node (.node (.node (.node .leaf none (.node .leaf (some row275) .leaf)) none (.node .leaf (some row147) .leaf)) none (.node (.node .leaf none (.node .leaf (some row339) .leaf)) (some row83) (.node .leaf (some row211) .leaf))) (some row19) (.node (.node (.node .leaf none (.node .leaf (some row307) .leaf)) none (.node .leaf (some row179) .leaf)) (some row51) (.node .leaf (some row115) (.node .leaf (some row243) .leaf))))) none (.node (.node (.node (.node (.node .leaf none (.node .leaf (some row267) .leaf)) none (.node .leaf (some row139) .leaf)) none (.node (.node .leaf none (.node .leaf (some row331) .leaf)) (some row75) (.node .leaf (some row203) .leaf))) none (.node (.node (.node .leaf none (.node .leaf (some row299) .leaf)) none (.node .leaf (some row171) .leaf)) (some row43) (.node (.node .leaf none (.node .leaf (some row363) .leaf)) (some row107) (.node .leaf (some row235) .leaf)))) (some row11) (.node (.node (.node (.node .leaf none (.node .leaf (some row283) .leaf)) none (.node .leaf (some row155) .leaf)) none (.node (.node .leaf none (.node .leaf (some row347) .leaf)) (some row91) (.node .leaf (some row219) .leaf))) (some row27) (.node (.node (.node .leaf none (.node .leaf (some row315) .leaf)) none (.node .leaf (some row187) .leaf)) (some row59) (.node (.node .leaf none (.node .leaf (some row379) .leaf)) none (.node .leaf (some row251) .leaf)))))) (some row3) (.node (.node (.node (.node (.node (.node .leaf none (.node .leaf (some row263) .leaf)) none (.node .leaf (some row135) .leaf)) none (.node (.node .leaf none (.node .leaf (some row327) .leaf)) (some row71) (.node .leaf (some row199) .leaf))) none (.node (.node (.node .leaf none (.node .leaf (some row295) .leaf)) none (.node .leaf (some row167) .leaf)) (some row39) (.node (.node .leaf none (.node .leaf (some row359) .leaf)) (some row103) (.node .leaf (some row231) .leaf)))) none (.node (.node (.node (.node .leaf none (.node .leaf (some row279) .leaf)) none (.node .leaf (some row151) .leaf)) none (.node (.node .leaf none (.node .leaf (some row343) .leaf)) (some row87) (.node .leaf (some row215) .leaf))) (some row23) (.node (.node (.node .leaf none (.node .leaf (some row311) .leaf)) none (.node .leaf (some row183) .leaf)) (some row55) (.node (.node .leaf none (.node .leaf (some row375) .leaf)) (some row119) (.node .leaf (some row247) .leaf))))) (some row7) (.node (.node (.node (.node (.node .leaf none (.node .leaf (some row271) .leaf)) none (.node .leaf (some row143) .leaf)) none (.node (.node .leaf none (.node .leaf (some row335) .leaf)) (some row79) (.node .leaf (some row207) .leaf))) none (.node (.node (.node .leaf none (.node .leaf (some row303) .leaf)) none (.node .leaf (some row175) .leaf)) (some row47) (.node (.node .leaf none (.node .leaf (some row367) .leaf)) (some row111) (.node .leaf (some row239) .leaf)))) (some row15) (.node (.node (.node (.node .leaf none (.node .leaf (some row287) .leaf)) none (.node .leaf (some row159) .leaf)) none (.node (.node .leaf none (.node .leaf (some row351) .leaf)) (some row95) (.node .leaf (some row223) .leaf))) (some row31) (.node (.node .leaf none (.node .leaf (some row191) .leaf)) (some row63) (.node .leaf (some row127) (.node .leaf (some row255) .leaf)))))))))
noncomputable def fnAt (f : FuncId) : Option (FnRow Tryz.prog btAll) := fnTree.get (bits f f)
noncomputable def fnIs (f : FuncId) : Bool :=
 match fnAt f with
 | some r => Nat.beq r.num f
 | none => false
theorem fnIs_ok (f : FuncId) (h : fnIs f = true) : HasBody Tryz.prog f := by
 unfold fnIs at h
 split at h
 ·rename_i r _
  rw [← Nat.eq_of_beq_eq_true h]
  exact r.has
 ·cases h
theorem drawnMixed : Tryz.prog.follows .mixedOrders = true := by kernel_rfl
noncomputable def cT : Cx := { T := { info := tyAt, flat := flats Tryz.prog, ext := extAt }, bodies := fnIs }
theorem cT_ok : cT.Ok Tryz.prog := ⟨⟨tyAt_ok, cP_ok.T.flat, extAt_ok⟩, fnIs_ok⟩
noncomputable def whole (n d : Nat) (f : FuncId) (args : List Value) : Option (AE × St × Log) := (orcF cT btAll fnAt n d).call f args St.nil
def answers : Option (AE × St × Log) → Option Value
 | some (.ret v, _, _) => some v
 | _ => none
theorem whole_call {n d : Nat} {f : FuncId} {args : List Value} {v : Value} (h : answers (whole n d f args) = some v) (ha : plainL args = true) (hv : plain v = true) (σ : St) : DCall Tryz.prog f args σ (.ret v) σ [] := by
 unfold answers at h
 split at h
 ·rename_i v' σ' lg hw
  cases h
  exact ((orcF_ok cT_ok drawnMixed d).call f args St.nil _ σ' lg hw).alone ha hv σ
 ·cases h
end Go.Ab
