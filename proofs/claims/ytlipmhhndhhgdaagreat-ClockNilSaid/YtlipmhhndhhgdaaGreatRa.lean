/- The functions and types of the seat's program as trees, and the runner of whole calls over them. -/
import Derived.Test.YtlipmhhndhhgdaaGreatTb
import Derived.Test.YtlipmhhndhhgdaaGreatFr
import Derived.Test.YtlipmhhndhhgdaaGreatProg
import Derived.KernelRfl
set_option linter.unusedSimpArgs false
set_option linter.unusedVariables false
namespace Go.Ab
open Go.Proofs

def btTab : List (Nat × List (Nat × List Nat)) := [
  (3, [(8, [0, 0, 0, 0, 12, 28, 63, 127, 255, 255, 0, 1535, 4095]), (14, [0, 0, 2, 7, 15, 31, 63, 127, 127, 383, 127, 1919, 3967, 8191, 16383, 32767, 65535, 131071, 262143, 524287, 1048575, 1048575, 4194303, 8388607, 16777215])]),
  (6, [(12, [0, 1, 3, 7, 15, 31, 15, 127, 255, 511, 1023, 1023, 3071, 1023, 9215, 1023, 65535, 131071, 262143, 524287, 524287, 1572863, 3670015, 524287, 8912895, 33554431, 67108863, 134217727]), (19, [0, 1, 3, 7, 7, 31, 63, 127, 255, 511, 1023, 1023, 4095, 8191, 16383, 1023, 33791, 99327, 262143, 524287])]),
  (7, [(17, [0, 0, 3, 7, 15, 0, 32, 127])]),
  (9, [(10, [0, 0, 0, 0, 12, 28, 63, 127, 255, 255, 0, 1535, 4095])]),
  (10, [(10, [0, 0, 0, 0, 12, 28, 63, 127, 255, 255, 511]), (16, [0, 0, 0, 0, 12, 28, 63, 127, 255, 255, 511])]),
  (13, [(12, [0, 0, 0, 6, 14, 30, 30, 126, 254, 255, 1023]), (16, [0, 0, 0, 6, 14, 30, 30, 126, 254, 31, 1023]), (20, [0, 0, 0, 6, 14, 30, 30, 94, 254, 510, 1022, 2046, 2046, 6142, 16382, 32766, 2047, 131071])]),
  (14, [(3, [0, 1, 3, 7, 15, 7, 39, 127, 255, 511, 1023, 2047, 1023, 5119, 16383, 32767, 65535]), (9, [0, 0, 2, 7, 15, 31, 31, 31, 223, 479, 991, 2047, 4095, 8191, 16383, 16383, 16383, 114687, 245759, 507903, 1048575, 2097151])]),
  (17, [(3, [0, 1, 3, 7, 0, 16, 63, 127]), (4, [0, 1, 3, 7, 0, 16, 63, 127, 255, 255, 0, 1535, 4095]), (11, [0, 1, 0, 4, 12, 28, 0, 64, 192, 448, 1020, 2047, 4095]), (15, [0, 1, 0, 4, 12, 28, 63, 127, 255, 511, 511, 0, 3071, 8191]), (16, [0, 1, 0, 4, 12, 28, 63, 127, 255, 255, 0, 1535, 4095]), (20, [0, 0, 0, 0, 8, 24, 56, 0, 128, 504, 125, 1149, 3197, 8191, 16383, 32767]), (21, [0, 1, 3, 7, 0, 16, 0, 127]), (22, [0, 1, 3, 7, 0, 16, 0, 127])]),
  (18, [(15, [0, 1, 3, 7, 0, 16, 63]), (16, [0, 1, 3, 7, 0, 16, 63])]),
  (19, [(4, [0, 1, 3, 7, 0, 16, 63, 0, 255]), (5, [0, 1, 3, 7, 0, 16, 63]), (6, [0, 1, 3, 7, 0, 16, 63, 127, 255, 511, 0, 1024, 4095, 8191, 16383, 32767]), (7, [0, 0, 2, 1, 15, 31])]),
  (20, [(3, [0, 1, 3, 7, 15, 0, 32, 96, 224, 511, 0, 0, 4095, 8191])]),
  (21, [(9, [0, 1, 3, 7, 0, 0, 0, 0, 0, 256, 992, 2016, 4095])]),
  (25, [(3, [0, 1, 3, 7, 15, 0, 0, 64, 192, 448, 991, 2047, 4095, 8191])]),
  (29, [(3, [0, 1, 3, 7, 0, 0, 0, 0, 128, 384, 896, 2047, 4095])]),
  (30, [(3, [0, 1, 0, 4, 12, 28, 63, 127]), (5, [0, 1, 3, 7, 0, 0, 32, 96, 224, 511, 1023, 1023, 4095, 8191])]),
  (31, [(14, [0, 1, 3, 7, 0, 0, 48, 0, 128, 384, 896, 1920, 3968, 8064, 0, 32640, 112, 131071, 262143, 524287]), (16, [0, 1, 3, 7, 0, 16, 48, 112, 255, 511, 1023, 2047])]),
  (32, [(3, [0, 1, 3, 7, 15, 31, 63, 127, 0, 256, 768, 1792, 3840, 7936, 16128, 255, 65535, 131071])]),
  (33, [(10, [0, 1, 3, 7, 0, 31, 63])]),
  (37, [(3, [0, 1, 0, 4, 12, 28, 63, 127]), (5, [0, 1, 3, 7, 0, 31, 63])]),
  (38, [(9, [0, 0, 3, 7, 15, 0, 63, 127, 255, 255, 0, 1535, 4095]), (11, [0, 1, 3, 7, 15, 31, 63, 127, 127, 511, 1023, 2047, 4095, 127, 16383, 32767, 65535])]),
  (40, [(13, [0, 0, 0, 6, 14, 30, 30, 126, 254, 510, 1022, 1022, 4094, 8190, 8191, 32767]), (17, [0, 0, 0, 6, 14, 30, 30, 126, 254, 31, 1023]), (24, [0, 0, 0, 6, 14, 30, 30, 126, 254, 255, 1023])]),
  (44, [(4, [0, 1, 3, 7, 15, 0, 32, 96, 224, 511, 1023, 2047, 4095, 8191])]),
  (47, [(4, [0, 1, 3, 7, 15, 7, 39, 127, 255, 511, 1023, 2047, 1023, 5119, 13311, 32767, 65535, 131071, 262143, 524287, 1048575, 524287, 2621439, 8388607, 16777215]), (10, [0, 0, 2, 7, 15, 31, 31, 31, 223, 479, 991, 2047, 4095, 8191, 16383, 16383, 16383, 114687, 245759, 507903, 1048575, 2097151]), (14, [0, 0, 2, 6, 15, 31, 63, 63, 191, 511, 1023, 2047, 4095, 8191, 16383, 32767, 32767, 98303, 229375, 524287, 1048575, 2097151, 4194303, 8388607, 16777215, 8388607, 41943039, 109051903, 268435455, 536870911, 1073741823])]),
  (51, [(12, [0, 1, 0, 7, 15, 0, 32, 0, 128, 480, 1023, 2047, 4095])]),
  (52, [(6, [0, 0, 3, 7, 0, 0, 48, 112, 255])]),
  (53, [(3, [0, 0, 1, 7, 15]), (6, [0, 0, 1, 7, 15]), (10, [0, 1, 0, 7, 15, 31, 63, 0, 128, 511]), (11, [0, 0, 1, 7, 15]), (14, [0, 0, 1, 7, 15]), (16, [0, 0, 1, 7, 15]), (23, [0, 0, 0, 1, 11, 31]), (24, [0, 0, 2, 0, 8, 30, 7, 71, 255, 511]), (26, [0, 1, 3, 0, 0, 24, 56, 127, 255, 511]), (27, [0, 0, 1, 7, 15])]),
  (54, [(9, [0, 1, 0, 7, 15, 0, 32, 0, 128, 480, 1023, 2047, 4095]), (10, [0, 0, 1, 7, 15])]),
  (56, [(6, [0, 0, 3, 7, 0, 0, 48, 112, 255])]),
  (63, [(11, [0, 0, 2, 6, 14, 0, 0, 0, 128, 384, 896, 2016, 4064, 8190, 16383, 32767, 65535])]),
  (65, [(1, [0, 1, 3, 7, 0, 16, 63, 127, 255, 255, 0, 1535, 4095])]),
  (78, [(3, [0, 1, 3, 7, 15, 31, 63, 0, 128, 384, 896, 1983, 0, 4096, 12288, 28672, 65535, 131071, 262143])]),
  (79, [(6, [0, 0, 3, 7, 0, 0, 48, 112, 255])]),
  (80, [(6, [0, 0, 3, 7, 0, 0, 48, 112, 255])]),
  (87, [(5, [0, 1, 0, 4, 12, 28, 0, 64, 252, 511, 1023]), (7, [0, 1, 3, 7, 15, 0, 32, 127, 255, 511, 1023, 2047]), (9, [0, 1, 3, 7, 0, 16, 48, 112, 240, 511]), (10, [0, 0, 2, 6, 0, 16, 48, 112, 240, 511]), (11, [0, 1, 3, 7, 0, 0, 32, 96, 224, 496, 0, 2047, 4095])]),
  (89, [(1, [0, 1, 3, 7, 0, 16, 48, 127, 255, 0, 512, 2047, 4095, 0, 8192, 24576, 65535, 131071, 262143, 524287]), (2, [0, 1, 3, 7, 0, 16, 48, 127, 255, 511]), (4, [0, 0, 3, 0, 8, 24, 0, 127, 255, 255, 1023, 2047]), (6, [0, 0, 3, 0, 8, 24, 0, 127, 255, 255, 1023, 2047])]),
  (90, [(1, [0, 1, 3, 7, 0, 16, 48, 127, 255, 0, 512, 2047, 4095, 0, 8192, 24576, 65535, 131071, 262143, 524287])]),
  (93, [(10, [0, 1, 0, 0, 12, 28, 63, 127, 255, 255, 0, 1535, 4095])]),
  (94, [(5, [0, 0, 0, 1, 11, 31])]),
  (96, [(11, [0, 0, 2, 0, 8, 30, 1, 65, 255, 511]), (14, [0, 0, 2, 1, 9, 31, 63])]),
  (97, [(6, [0, 0, 3, 7, 0, 0, 48, 112, 255])]),
  (103, [(7, [0, 0, 2, 7, 15, 31, 31, 127, 255, 511, 31, 1055, 4095, 8191]), (9, [0, 0, 3, 7, 0, 16, 63, 0, 0, 384, 1023, 2047, 4095])]),
  (105, [(5, [0, 1, 3, 7, 15, 7, 63, 127, 255, 7, 519, 7, 3591, 7687, 15879, 32767, 65535, 131071])]),
  (108, [(5, [0, 1, 3, 0, 8, 24, 63, 0, 128, 511, 0, 1024, 3072, 8191, 0, 0, 65535, 131071]), (8, [0, 0, 3, 0, 8, 24, 63, 127])]),
  (110, [(2, [0, 1, 0, 4, 0, 16, 60, 127, 255, 511, 1023, 0, 2303, 8191, 16383])]),
  (112, [(2, [0, 0, 3, 0, 0, 0, 48, 127, 255])]),
  (115, [(2, [0, 1, 3, 0, 8, 24, 0, 120, 255, 0, 512, 2047, 0, 4096, 12288, 0, 61440, 131071, 0, 0, 1048575, 2097151]), (3, [0, 0, 3, 0, 8, 24, 0, 71, 255]), (7, [0, 0, 3, 0, 8, 24, 7, 127]), (10, [0, 1, 3, 0, 15, 0, 32, 96, 0, 480, 1023, 0, 4095])]),
  (117, [(1, [0, 1, 3, 7, 15, 31, 63, 127, 255, 511, 1023, 2047, 511, 4607, 12799, 32767, 65535, 131071])]),
  (118, [(0, [0, 1, 3, 7, 15, 0, 32, 96, 224, 0, 992, 2016, 4064, 0, 16383])]),
  (119, [(2, [0, 1, 3, 7, 0, 31, 63, 0, 128, 384, 896, 0, 3968, 8064, 16383, 32767])]),
  (122, [(1, [0, 0, 3, 0, 0, 31, 63, 127])]),
  (124, [(1, [0, 1, 3, 7, 0, 31, 63, 0, 128, 384, 896, 1920, 3968, 0, 8319, 32767]), (4, [0, 1, 3, 7, 15, 0, 32, 127])]),
  (130, [(1, [0, 0, 3, 0, 0, 31, 63, 127])]),
  (137, [(3, [0, 0, 0, 4, 0, 16, 48, 112, 240, 253, 765, 1789, 4095, 8191, 16383])]),
  (141, [(5, [0, 0, 2, 6, 14, 0, 0, 96, 254, 510, 1022, 2047, 4095])]),
  (142, [(1, [0, 1, 3, 7, 0, 31, 0, 64, 192, 448, 960, 2047, 4095])]),
  (146, [(11, [0, 0, 0, 6, 14, 30, 0, 0, 192, 448, 960, 2046, 4095, 8191])]),
  (148, [(6, [0, 0, 3, 7, 0, 0, 48, 112, 255]), (7, [0, 0, 3, 7, 0, 0, 48, 112, 255, 511])]),
  (151, [(3, [0, 1, 0, 4, 15, 0, 32, 127]), (4, [0, 1, 3, 0, 8, 0, 32, 120, 31, 287, 1023, 2047]), (6, [0, 1, 3, 0, 8, 31, 63, 127])]),
  (152, [(5, [0, 0, 1, 7, 15])]),
  (153, [(4, [0, 0, 0, 6, 15, 31])]),
  (160, [(8, [0, 0, 2, 1, 15])]),
  (161, [(2, [0, 0, 0, 6, 3, 31])]),
  (179, [(3, [0, 1, 3, 7, 0, 16, 48, 112, 255, 511, 1023, 2047])]),
  (183, [(10, [0, 0, 2, 0, 0, 16, 56, 120, 0, 256, 768, 2040, 4095, 8191])]),
  (192, [(6, [0, 0, 3, 0, 0, 24, 7, 127])]),
  (195, [(0, [0, 0, 0, 0, 0, 0, 48, 112, 0, 0, 768, 1792, 4083, 8179, 16383, 32767])]),
  (196, [(17, [0, 1, 3, 7, 7, 7, 39, 119, 247, 7, 7, 1543, 3591, 8191, 16383, 32767, 65535])]),
  (198, [(4, [0, 0, 2, 6, 14, 30, 63, 127, 255, 511, 1023, 2047, 255, 8191, 16383, 255, 33023, 98559, 229631, 255, 1016063, 2064639, 4194303, 8388607, 16777215])]),
  (202, [(17, [0, 1, 3, 7, 7, 7, 39, 119, 247, 7, 7, 1543, 3591, 8191, 16383, 32767, 65535])]),
  (206, [(4, [0, 0, 3, 7, 15, 15, 15, 111, 239, 15, 15, 1039, 3599, 7695, 16383, 32767, 65535]), (6, [0, 0, 0, 0, 8, 0, 0, 64, 224, 480, 0, 0, 3072, 7168, 16355, 32739, 65535, 131071])]),
  (207, [(10, [0, 0, 0, 0, 0, 24, 0, 0, 0, 384, 960, 1984, 0, 0, 12288, 28672, 65475, 131011, 262143, 524287])]),
  (208, [(10, [0, 0, 0, 0, 0, 24, 0, 0, 0, 384, 960, 1984, 0, 0, 12288, 28672, 65475, 131011, 262143, 524287])]),
  (210, [(3, [0, 0, 0, 0, 0, 0, 48, 112, 0, 0, 768, 1792, 4083, 8179, 16383, 32767])]),
  (211, [(5, [0, 0, 3, 7, 15, 15, 15, 111, 239, 15, 15, 1039, 3599, 7695, 16383, 32767, 65535, 131071]), (11, [0, 0, 0, 0, 8, 0, 0, 64, 224, 480, 0, 0, 3072, 7168, 16355, 32739, 65535, 131071]), (16, [0, 0, 0, 6, 14, 0, 0, 64, 224, 480, 1023, 2047, 4095]), (17, [0, 0, 0, 0, 8, 0, 0, 64, 224, 480, 0, 0, 3072, 7168, 16355, 32739, 65535, 131071]), (22, [0, 0, 0, 6, 14, 0, 0, 64, 224, 480, 1023, 2047, 4095]), (23, [0, 0, 0, 0, 8, 0, 0, 64, 224, 480, 0, 0, 3072, 7168, 16355, 32739, 65535, 131071])]),
  (212, [(1, [0, 0, 0, 0, 0, 0, 48, 112, 0, 0, 768, 1792, 4083, 8179, 16383, 32767]), (3, [0, 0, 3, 7, 15, 15, 15, 111, 239, 15, 15, 1551, 3599, 8191, 16383, 32767, 65535]), (5, [0, 0, 3, 7, 15, 15, 15, 111, 239, 15, 15, 1551, 3599, 8191, 16383, 32767]), (8, [0, 0, 0, 0, 0, 0, 48, 112, 0, 0, 768, 1792, 4083, 8179, 16383, 32767])]),
  (213, [(1, [0, 0, 0, 0, 0, 0, 48, 112, 0, 0, 768, 1792, 4083, 8179, 16383, 32767]), (3, [0, 0, 3, 7, 15, 15, 15, 111, 239, 15, 15, 1551, 3599, 8191, 16383, 32767]), (5, [0, 0, 3, 7, 15, 15, 15, 111, 239, 15, 15, 1551, 3599, 8191, 16383, 32767, 65535]), (8, [0, 0, 0, 0, 0, 0, 48, 112, 0, 0, 768, 1792, 4083, 8179, 16383, 32767]), (10, [0, 0, 0, 0, 0, 0, 48, 112, 0, 0, 768, 1792, 4083, 8179, 16383, 32767]), (13, [0, 0, 3, 7, 15, 15, 15, 111, 239, 15, 15, 1551, 3599, 8191, 16383, 32767]), (15, [0, 0, 3, 7, 15, 15, 15, 111, 239, 15, 15, 1551, 3599, 8191, 16383, 32767, 65535]), (18, [0, 0, 0, 0, 0, 0, 48, 112, 0, 0, 768, 1792, 4083, 8179, 16383, 32767]), (21, [0, 0, 0, 0, 0, 0, 48, 112, 0, 0, 768, 1792, 4083, 8179, 16383, 32767])]),
  (217, [(17, [0, 1, 3, 7, 7, 7, 39, 119, 247, 7, 7, 1543, 3591, 8191, 16383, 32767, 65535])]),
  (218, [(4, [0, 0, 3, 7, 15, 15, 15, 111, 239, 15, 15, 1039, 3599, 7695, 16383, 32767, 65535]), (6, [0, 0, 0, 0, 8, 0, 0, 64, 224, 480, 0, 0, 3072, 7168, 16355, 32739, 65535, 131071])]),
  (219, [(10, [0, 0, 0, 0, 0, 24, 0, 0, 0, 384, 960, 1984, 0, 0, 12288, 28672, 65475, 131011, 262143, 524287])]),
  (220, [(10, [0, 0, 0, 0, 0, 24, 0, 0, 0, 384, 960, 1984, 0, 0, 12288, 28672, 65475, 131011, 262143, 524287])]),
  (222, [(3, [0, 0, 0, 0, 0, 0, 48, 112, 0, 0, 768, 1792, 4083, 8179, 16383, 32767])]),
  (223, [(5, [0, 0, 3, 7, 15, 15, 15, 111, 239, 15, 15, 1039, 3599, 7695, 16383, 32767, 65535, 131071]), (11, [0, 0, 0, 0, 8, 0, 0, 64, 224, 480, 0, 0, 3072, 7168, 16355, 32739, 65535, 131071]), (16, [0, 0, 0, 6, 14, 0, 0, 64, 224, 480, 1023, 2047, 4095]), (17, [0, 0, 0, 0, 8, 0, 0, 64, 224, 480, 0, 0, 3072, 7168, 16355, 32739, 65535, 131071]), (22, [0, 0, 0, 6, 14, 0, 0, 64, 224, 480, 1023, 2047, 4095]), (23, [0, 0, 0, 0, 8, 0, 0, 64, 224, 480, 0, 0, 3072, 7168, 16355, 32739, 65535, 131071])]),
  (224, [(1, [0, 0, 0, 0, 0, 0, 48, 112, 0, 0, 768, 1792, 4083, 8179, 16383, 32767]), (3, [0, 0, 3, 7, 15, 15, 15, 111, 239, 15, 15, 1551, 3599, 8191, 16383, 32767, 65535]), (5, [0, 0, 3, 7, 15, 15, 15, 111, 239, 15, 15, 1551, 3599, 8191, 16383, 32767]), (8, [0, 0, 0, 0, 0, 0, 48, 112, 0, 0, 768, 1792, 4083, 8179, 16383, 32767])]),
  (225, [(1, [0, 0, 0, 0, 0, 0, 48, 112, 0, 0, 768, 1792, 4083, 8179, 16383, 32767]), (3, [0, 0, 3, 7, 15, 15, 15, 111, 239, 15, 15, 1551, 3599, 8191, 16383, 32767]), (5, [0, 0, 3, 7, 15, 15, 15, 111, 239, 15, 15, 1551, 3599, 8191, 16383, 32767, 65535]), (8, [0, 0, 0, 0, 0, 0, 48, 112, 0, 0, 768, 1792, 4083, 8179, 16383, 32767]), (10, [0, 0, 0, 0, 0, 0, 48, 112, 0, 0, 768, 1792, 4083, 8179, 16383, 32767]), (13, [0, 0, 3, 7, 15, 15, 15, 111, 239, 15, 15, 1551, 3599, 8191, 16383, 32767]), (15, [0, 0, 3, 7, 15, 15, 15, 111, 239, 15, 15, 1551, 3599, 8191, 16383, 32767, 65535]), (18, [0, 0, 0, 0, 0, 0, 48, 112, 0, 0, 768, 1792, 4083, 8179, 16383, 32767]), (21, [0, 0, 0, 0, 0, 0, 48, 112, 0, 0, 768, 1792, 4083, 8179, 16383, 32767])]),
  (226, [(8, [0, 0, 2, 1, 15])]),
  (227, [(3, [0, 1, 0, 7, 15, 31, 31, 31, 31, 415, 991, 2015, 31, 31, 31, 24607, 57375, 127007, 258079, 524287, 1048575, 2097151]), (5, [0, 0, 0, 0, 12, 30, 62, 0, 0, 0, 768, 1920, 3968, 8191, 16383, 32767]), (6, [0, 0, 0, 6, 0, 0, 0, 96, 0, 0, 0, 1536, 3840, 7936, 0, 0, 0, 98304, 245760, 507904, 1048335, 2096911, 4194303, 8388607])]),
  (229, [(1, [0, 1, 3, 0, 8, 24, 56, 127, 255, 511]), (2, [0, 1, 3, 0, 8, 24, 56, 127, 255, 511]), (3, [0, 1, 3, 0, 8, 24, 56, 127, 255, 511])]),
  (232, [(4, [0, 0, 3, 7, 15, 15, 15, 111, 239, 15, 15, 1039, 3599, 7695, 16383, 32767, 65535]), (6, [0, 0, 0, 0, 8, 0, 0, 64, 224, 480, 0, 0, 3072, 7168, 16355, 32739, 65535, 131071])]),
  (233, [(10, [0, 0, 0, 0, 0, 24, 0, 0, 0, 384, 960, 1984, 0, 0, 12288, 28672, 65475, 131011, 262143, 524287])]),
  (234, [(10, [0, 0, 0, 0, 0, 24, 0, 0, 0, 384, 960, 1984, 0, 0, 12288, 28672, 65475, 131011, 262143, 524287])]),
  (236, [(3, [0, 0, 0, 0, 0, 0, 48, 112, 0, 0, 768, 1792, 4083, 8179, 16383, 32767])]),
  (237, [(5, [0, 0, 3, 7, 15, 15, 15, 111, 239, 15, 15, 1039, 3599, 7695, 16383, 32767, 65535, 131071]), (11, [0, 0, 0, 0, 8, 0, 0, 64, 224, 480, 0, 0, 3072, 7168, 16355, 32739, 65535, 131071]), (16, [0, 0, 0, 6, 14, 0, 0, 64, 224, 480, 1023, 2047, 4095]), (17, [0, 0, 0, 0, 8, 0, 0, 64, 224, 480, 0, 0, 3072, 7168, 16355, 32739, 65535, 131071]), (22, [0, 0, 0, 6, 14, 0, 0, 64, 224, 480, 1023, 2047, 4095]), (23, [0, 0, 0, 0, 8, 0, 0, 64, 224, 480, 0, 0, 3072, 7168, 16355, 32739, 65535, 131071])]),
  (238, [(1, [0, 0, 0, 0, 0, 0, 48, 112, 0, 0, 768, 1792, 4083, 8179, 16383, 32767]), (3, [0, 0, 3, 7, 15, 15, 15, 111, 239, 15, 15, 1551, 3599, 8191, 16383, 32767, 65535]), (5, [0, 0, 3, 7, 15, 15, 15, 111, 239, 15, 15, 1551, 3599, 8191, 16383, 32767]), (8, [0, 0, 0, 0, 0, 0, 48, 112, 0, 0, 768, 1792, 4083, 8179, 16383, 32767])]),
  (239, [(1, [0, 0, 0, 0, 0, 0, 48, 112, 0, 0, 768, 1792, 4083, 8179, 16383, 32767]), (3, [0, 0, 3, 7, 15, 15, 15, 111, 239, 15, 15, 1551, 3599, 8191, 16383, 32767]), (5, [0, 0, 3, 7, 15, 15, 15, 111, 239, 15, 15, 1551, 3599, 8191, 16383, 32767, 65535]), (8, [0, 0, 0, 0, 0, 0, 48, 112, 0, 0, 768, 1792, 4083, 8179, 16383, 32767]), (10, [0, 0, 0, 0, 0, 0, 48, 112, 0, 0, 768, 1792, 4083, 8179, 16383, 32767]), (13, [0, 0, 3, 7, 15, 15, 15, 111, 239, 15, 15, 1551, 3599, 8191, 16383, 32767]), (15, [0, 0, 3, 7, 15, 15, 15, 111, 239, 15, 15, 1551, 3599, 8191, 16383, 32767, 65535]), (18, [0, 0, 0, 0, 0, 0, 48, 112, 0, 0, 768, 1792, 4083, 8179, 16383, 32767]), (21, [0, 0, 0, 0, 0, 0, 48, 112, 0, 0, 768, 1792, 4083, 8179, 16383, 32767])]),
  (240, [(3, [0, 1, 0, 7, 15, 31, 31, 31, 31, 415, 991, 2015, 31, 31, 31, 24607, 57375, 127007, 258079, 524287, 1048575, 2097151]), (5, [0, 0, 0, 0, 12, 30, 62, 0, 0, 0, 768, 1920, 3968, 8191, 16383, 32767]), (6, [0, 0, 0, 6, 0, 0, 0, 96, 0, 0, 0, 1536, 3840, 7936, 0, 0, 0, 98304, 245760, 507904, 1048335, 2096911, 4194303, 8388607])]),
  (243, [(1, [0, 0, 0, 6, 14, 0, 0, 96, 224, 511, 1023])]),
  (244, [(3, [0, 1, 0, 7, 15, 31, 31, 31, 31, 415, 991, 2015, 31, 31, 31, 24607, 57375, 127007, 258079, 524287, 1048575, 2097151]), (5, [0, 0, 0, 0, 12, 30, 62, 0, 0, 0, 768, 1920, 3968, 8191, 16383, 32767]), (6, [0, 0, 0, 6, 0, 0, 0, 96, 0, 0, 0, 1536, 3840, 7936, 0, 0, 0, 98304, 245760, 507904, 1048335, 2096911, 4194303, 8388607])]),
  (247, [(1, [0, 0, 0, 6, 14, 0, 0, 96, 224, 511, 1023])]),
  (248, [(1, [0, 0, 0, 6, 14, 0, 0, 96, 224, 511, 1023])])]

def lookN {α : Type} (d : α) : List (Nat × α) → Nat → α
  | [], _ => d
  | (k, v) :: r, n => match Nat.beq k n with
    | true => v
    | false => lookN d r n

def btAll (f : FuncId) (r : Nat) : List Nat :=
  match Nat.beq r 1000000 with
  | true => [f]
  | false => lookN [] (lookN [] btTab f) r

inductive BT (α : Type) where
  | leaf
  | node (l : BT α) (o : Option α) (r : BT α)
def BT.get {α : Type} : BT α → List Bool → Option α
  | .leaf, _ => none
  | .node _ o _, [] => o
  | .node l _ r, b :: bs => match b with | true => r.get bs | false => l.get bs

structure TyRow where
  num : TypeId
  info : TypeInfo
  at' : Tryz.prog.info? num = some info

noncomputable def ty0 : TyRow := ⟨0, Tryz.t0, by kernel_rfl⟩
noncomputable def ty1 : TyRow := ⟨1, Tryz.t1, by kernel_rfl⟩
noncomputable def ty2 : TyRow := ⟨2, Tryz.t2, by kernel_rfl⟩
noncomputable def ty3 : TyRow := ⟨3, Tryz.t3, by kernel_rfl⟩
noncomputable def ty4 : TyRow := ⟨4, Tryz.t4, by kernel_rfl⟩
noncomputable def ty5 : TyRow := ⟨5, Tryz.t5, by kernel_rfl⟩
noncomputable def ty6 : TyRow := ⟨6, Tryz.t6, by kernel_rfl⟩
noncomputable def ty7 : TyRow := ⟨7, Tryz.t7, by kernel_rfl⟩
noncomputable def ty8 : TyRow := ⟨8, Tryz.t8, by kernel_rfl⟩
noncomputable def ty9 : TyRow := ⟨9, Tryz.t9, by kernel_rfl⟩
noncomputable def ty10 : TyRow := ⟨10, Tryz.t10, by kernel_rfl⟩
noncomputable def ty11 : TyRow := ⟨11, Tryz.t11, by kernel_rfl⟩
noncomputable def ty12 : TyRow := ⟨12, Tryz.t12, by kernel_rfl⟩
noncomputable def ty13 : TyRow := ⟨13, Tryz.t13, by kernel_rfl⟩
noncomputable def ty14 : TyRow := ⟨14, Tryz.t14, by kernel_rfl⟩
noncomputable def ty15 : TyRow := ⟨15, Tryz.t15, by kernel_rfl⟩
noncomputable def ty16 : TyRow := ⟨16, Tryz.t16, by kernel_rfl⟩
noncomputable def ty17 : TyRow := ⟨17, Tryz.t17, by kernel_rfl⟩
noncomputable def ty18 : TyRow := ⟨18, Tryz.t18, by kernel_rfl⟩
noncomputable def ty19 : TyRow := ⟨19, Tryz.t19, by kernel_rfl⟩
noncomputable def ty20 : TyRow := ⟨20, Tryz.t20, by kernel_rfl⟩
noncomputable def ty21 : TyRow := ⟨21, Tryz.t21, by kernel_rfl⟩
noncomputable def ty22 : TyRow := ⟨22, Tryz.t22, by kernel_rfl⟩
noncomputable def ty23 : TyRow := ⟨23, Tryz.t23, by kernel_rfl⟩
noncomputable def ty24 : TyRow := ⟨24, Tryz.t24, by kernel_rfl⟩
noncomputable def ty25 : TyRow := ⟨25, Tryz.t25, by kernel_rfl⟩
noncomputable def ty26 : TyRow := ⟨26, Tryz.t26, by kernel_rfl⟩
noncomputable def ty27 : TyRow := ⟨27, Tryz.t27, by kernel_rfl⟩
noncomputable def ty28 : TyRow := ⟨28, Tryz.t28, by kernel_rfl⟩
noncomputable def ty29 : TyRow := ⟨29, Tryz.t29, by kernel_rfl⟩
noncomputable def ty30 : TyRow := ⟨30, Tryz.t30, by kernel_rfl⟩
noncomputable def ty31 : TyRow := ⟨31, Tryz.t31, by kernel_rfl⟩
noncomputable def ty32 : TyRow := ⟨32, Tryz.t32, by kernel_rfl⟩
noncomputable def ty33 : TyRow := ⟨33, Tryz.t33, by kernel_rfl⟩
noncomputable def ty34 : TyRow := ⟨34, Tryz.t34, by kernel_rfl⟩
noncomputable def ty35 : TyRow := ⟨35, Tryz.t35, by kernel_rfl⟩
noncomputable def ty36 : TyRow := ⟨36, Tryz.t36, by kernel_rfl⟩
noncomputable def ty37 : TyRow := ⟨37, Tryz.t37, by kernel_rfl⟩
noncomputable def ty38 : TyRow := ⟨38, Tryz.t38, by kernel_rfl⟩
noncomputable def ty39 : TyRow := ⟨39, Tryz.t39, by kernel_rfl⟩
noncomputable def ty40 : TyRow := ⟨40, Tryz.t40, by kernel_rfl⟩
noncomputable def ty41 : TyRow := ⟨41, Tryz.t41, by kernel_rfl⟩
noncomputable def ty42 : TyRow := ⟨42, Tryz.t42, by kernel_rfl⟩
noncomputable def ty43 : TyRow := ⟨43, Tryz.t43, by kernel_rfl⟩
noncomputable def ty44 : TyRow := ⟨44, Tryz.t44, by kernel_rfl⟩
noncomputable def ty45 : TyRow := ⟨45, Tryz.t45, by kernel_rfl⟩
noncomputable def ty46 : TyRow := ⟨46, Tryz.t46, by kernel_rfl⟩
noncomputable def ty47 : TyRow := ⟨47, Tryz.t47, by kernel_rfl⟩
noncomputable def ty48 : TyRow := ⟨48, Tryz.t48, by kernel_rfl⟩
noncomputable def ty49 : TyRow := ⟨49, Tryz.t49, by kernel_rfl⟩
noncomputable def ty50 : TyRow := ⟨50, Tryz.t50, by kernel_rfl⟩
noncomputable def ty51 : TyRow := ⟨51, Tryz.t51, by kernel_rfl⟩
noncomputable def ty52 : TyRow := ⟨52, Tryz.t52, by kernel_rfl⟩
noncomputable def ty53 : TyRow := ⟨53, Tryz.t53, by kernel_rfl⟩
noncomputable def ty54 : TyRow := ⟨54, Tryz.t54, by kernel_rfl⟩
noncomputable def ty55 : TyRow := ⟨55, Tryz.t55, by kernel_rfl⟩
noncomputable def ty56 : TyRow := ⟨56, Tryz.t56, by kernel_rfl⟩
noncomputable def ty57 : TyRow := ⟨57, Tryz.t57, by kernel_rfl⟩
noncomputable def ty58 : TyRow := ⟨58, Tryz.t58, by kernel_rfl⟩
noncomputable def ty59 : TyRow := ⟨59, Tryz.t59, by kernel_rfl⟩
noncomputable def ty60 : TyRow := ⟨60, Tryz.t60, by kernel_rfl⟩
noncomputable def ty61 : TyRow := ⟨61, Tryz.t61, by kernel_rfl⟩
noncomputable def ty62 : TyRow := ⟨62, Tryz.t62, by kernel_rfl⟩
noncomputable def ty63 : TyRow := ⟨63, Tryz.t63, by kernel_rfl⟩
noncomputable def ty64 : TyRow := ⟨64, Tryz.t64, by kernel_rfl⟩
noncomputable def ty65 : TyRow := ⟨65, Tryz.t65, by kernel_rfl⟩
noncomputable def ty66 : TyRow := ⟨66, Tryz.t66, by kernel_rfl⟩
noncomputable def ty67 : TyRow := ⟨67, Tryz.t67, by kernel_rfl⟩
noncomputable def ty68 : TyRow := ⟨68, Tryz.t68, by kernel_rfl⟩
noncomputable def ty69 : TyRow := ⟨69, Tryz.t69, by kernel_rfl⟩
noncomputable def ty70 : TyRow := ⟨70, Tryz.t70, by kernel_rfl⟩
noncomputable def ty71 : TyRow := ⟨71, Tryz.t71, by kernel_rfl⟩
noncomputable def ty72 : TyRow := ⟨72, Tryz.t72, by kernel_rfl⟩
noncomputable def ty73 : TyRow := ⟨73, Tryz.t73, by kernel_rfl⟩
noncomputable def ty74 : TyRow := ⟨74, Tryz.t74, by kernel_rfl⟩
noncomputable def ty75 : TyRow := ⟨75, Tryz.t75, by kernel_rfl⟩
noncomputable def ty76 : TyRow := ⟨76, Tryz.t76, by kernel_rfl⟩
noncomputable def ty77 : TyRow := ⟨77, Tryz.t77, by kernel_rfl⟩
noncomputable def ty78 : TyRow := ⟨78, Tryz.t78, by kernel_rfl⟩
noncomputable def ty79 : TyRow := ⟨79, Tryz.t79, by kernel_rfl⟩
noncomputable def ty80 : TyRow := ⟨80, Tryz.t80, by kernel_rfl⟩
noncomputable def ty81 : TyRow := ⟨81, Tryz.t81, by kernel_rfl⟩
noncomputable def ty82 : TyRow := ⟨82, Tryz.t82, by kernel_rfl⟩
noncomputable def ty83 : TyRow := ⟨83, Tryz.t83, by kernel_rfl⟩
noncomputable def ty84 : TyRow := ⟨84, Tryz.t84, by kernel_rfl⟩
noncomputable def ty85 : TyRow := ⟨85, Tryz.t85, by kernel_rfl⟩
noncomputable def ty86 : TyRow := ⟨86, Tryz.t86, by kernel_rfl⟩
noncomputable def ty87 : TyRow := ⟨87, Tryz.t87, by kernel_rfl⟩
noncomputable def ty88 : TyRow := ⟨88, Tryz.t88, by kernel_rfl⟩
noncomputable def ty89 : TyRow := ⟨89, Tryz.t89, by kernel_rfl⟩
noncomputable def ty90 : TyRow := ⟨90, Tryz.t90, by kernel_rfl⟩
noncomputable def ty91 : TyRow := ⟨91, Tryz.t91, by kernel_rfl⟩
noncomputable def ty92 : TyRow := ⟨92, Tryz.t92, by kernel_rfl⟩
noncomputable def ty93 : TyRow := ⟨93, Tryz.t93, by kernel_rfl⟩
noncomputable def ty94 : TyRow := ⟨94, Tryz.t94, by kernel_rfl⟩
noncomputable def ty95 : TyRow := ⟨95, Tryz.t95, by kernel_rfl⟩
noncomputable def ty96 : TyRow := ⟨96, Tryz.t96, by kernel_rfl⟩
noncomputable def ty97 : TyRow := ⟨97, Tryz.t97, by kernel_rfl⟩
noncomputable def ty98 : TyRow := ⟨98, Tryz.t98, by kernel_rfl⟩
noncomputable def ty99 : TyRow := ⟨99, Tryz.t99, by kernel_rfl⟩
noncomputable def ty100 : TyRow := ⟨100, Tryz.t100, by kernel_rfl⟩
noncomputable def ty101 : TyRow := ⟨101, Tryz.t101, by kernel_rfl⟩
noncomputable def ty102 : TyRow := ⟨102, Tryz.t102, by kernel_rfl⟩
noncomputable def ty103 : TyRow := ⟨103, Tryz.t103, by kernel_rfl⟩
noncomputable def ty104 : TyRow := ⟨104, Tryz.t104, by kernel_rfl⟩
noncomputable def ty105 : TyRow := ⟨105, Tryz.t105, by kernel_rfl⟩
noncomputable def ty106 : TyRow := ⟨106, Tryz.t106, by kernel_rfl⟩
noncomputable def ty107 : TyRow := ⟨107, Tryz.t107, by kernel_rfl⟩
noncomputable def ty108 : TyRow := ⟨108, Tryz.t108, by kernel_rfl⟩
noncomputable def ty109 : TyRow := ⟨109, Tryz.t109, by kernel_rfl⟩
noncomputable def ty110 : TyRow := ⟨110, Tryz.t110, by kernel_rfl⟩
noncomputable def ty111 : TyRow := ⟨111, Tryz.t111, by kernel_rfl⟩
noncomputable def ty112 : TyRow := ⟨112, Tryz.t112, by kernel_rfl⟩
noncomputable def ty113 : TyRow := ⟨113, Tryz.t113, by kernel_rfl⟩
noncomputable def ty114 : TyRow := ⟨114, Tryz.t114, by kernel_rfl⟩
noncomputable def ty115 : TyRow := ⟨115, Tryz.t115, by kernel_rfl⟩
noncomputable def ty116 : TyRow := ⟨116, Tryz.t116, by kernel_rfl⟩
noncomputable def ty117 : TyRow := ⟨117, Tryz.t117, by kernel_rfl⟩
noncomputable def ty118 : TyRow := ⟨118, Tryz.t118, by kernel_rfl⟩
noncomputable def ty119 : TyRow := ⟨119, Tryz.t119, by kernel_rfl⟩
noncomputable def ty120 : TyRow := ⟨120, Tryz.t120, by kernel_rfl⟩
noncomputable def ty121 : TyRow := ⟨121, Tryz.t121, by kernel_rfl⟩
noncomputable def ty122 : TyRow := ⟨122, Tryz.t122, by kernel_rfl⟩
noncomputable def ty123 : TyRow := ⟨123, Tryz.t123, by kernel_rfl⟩
noncomputable def ty124 : TyRow := ⟨124, Tryz.t124, by kernel_rfl⟩
noncomputable def ty125 : TyRow := ⟨125, Tryz.t125, by kernel_rfl⟩
noncomputable def ty126 : TyRow := ⟨126, Tryz.t126, by kernel_rfl⟩
noncomputable def ty127 : TyRow := ⟨127, Tryz.t127, by kernel_rfl⟩
noncomputable def ty128 : TyRow := ⟨128, Tryz.t128, by kernel_rfl⟩
noncomputable def ty129 : TyRow := ⟨129, Tryz.t129, by kernel_rfl⟩
noncomputable def ty130 : TyRow := ⟨130, Tryz.t130, by kernel_rfl⟩
noncomputable def ty131 : TyRow := ⟨131, Tryz.t131, by kernel_rfl⟩
noncomputable def ty132 : TyRow := ⟨132, Tryz.t132, by kernel_rfl⟩
noncomputable def ty133 : TyRow := ⟨133, Tryz.t133, by kernel_rfl⟩
noncomputable def ty134 : TyRow := ⟨134, Tryz.t134, by kernel_rfl⟩
noncomputable def ty135 : TyRow := ⟨135, Tryz.t135, by kernel_rfl⟩
noncomputable def ty136 : TyRow := ⟨136, Tryz.t136, by kernel_rfl⟩
noncomputable def ty137 : TyRow := ⟨137, Tryz.t137, by kernel_rfl⟩
noncomputable def ty138 : TyRow := ⟨138, Tryz.t138, by kernel_rfl⟩
noncomputable def ty139 : TyRow := ⟨139, Tryz.t139, by kernel_rfl⟩
noncomputable def ty140 : TyRow := ⟨140, Tryz.t140, by kernel_rfl⟩
noncomputable def ty141 : TyRow := ⟨141, Tryz.t141, by kernel_rfl⟩
noncomputable def ty142 : TyRow := ⟨142, Tryz.t142, by kernel_rfl⟩
noncomputable def ty143 : TyRow := ⟨143, Tryz.t143, by kernel_rfl⟩
noncomputable def ty144 : TyRow := ⟨144, Tryz.t144, by kernel_rfl⟩
noncomputable def ty145 : TyRow := ⟨145, Tryz.t145, by kernel_rfl⟩
noncomputable def ty146 : TyRow := ⟨146, Tryz.t146, by kernel_rfl⟩
noncomputable def ty147 : TyRow := ⟨147, Tryz.t147, by kernel_rfl⟩
noncomputable def ty148 : TyRow := ⟨148, Tryz.t148, by kernel_rfl⟩
noncomputable def ty149 : TyRow := ⟨149, Tryz.t149, by kernel_rfl⟩
noncomputable def ty150 : TyRow := ⟨150, Tryz.t150, by kernel_rfl⟩
noncomputable def ty151 : TyRow := ⟨151, Tryz.t151, by kernel_rfl⟩
noncomputable def ty152 : TyRow := ⟨152, Tryz.t152, by kernel_rfl⟩
noncomputable def ty153 : TyRow := ⟨153, Tryz.t153, by kernel_rfl⟩
noncomputable def ty154 : TyRow := ⟨154, Tryz.t154, by kernel_rfl⟩
noncomputable def ty155 : TyRow := ⟨155, Tryz.t155, by kernel_rfl⟩
noncomputable def ty156 : TyRow := ⟨156, Tryz.t156, by kernel_rfl⟩
noncomputable def ty157 : TyRow := ⟨157, Tryz.t157, by kernel_rfl⟩
noncomputable def ty158 : TyRow := ⟨158, Tryz.t158, by kernel_rfl⟩
noncomputable def ty159 : TyRow := ⟨159, Tryz.t159, by kernel_rfl⟩
noncomputable def ty160 : TyRow := ⟨160, Tryz.t160, by kernel_rfl⟩
noncomputable def ty161 : TyRow := ⟨161, Tryz.t161, by kernel_rfl⟩
noncomputable def ty162 : TyRow := ⟨162, Tryz.t162, by kernel_rfl⟩
noncomputable def ty163 : TyRow := ⟨163, Tryz.t163, by kernel_rfl⟩
noncomputable def ty164 : TyRow := ⟨164, Tryz.t164, by kernel_rfl⟩
noncomputable def ty165 : TyRow := ⟨165, Tryz.t165, by kernel_rfl⟩
noncomputable def ty166 : TyRow := ⟨166, Tryz.t166, by kernel_rfl⟩
noncomputable def ty167 : TyRow := ⟨167, Tryz.t167, by kernel_rfl⟩
noncomputable def ty168 : TyRow := ⟨168, Tryz.t168, by kernel_rfl⟩
noncomputable def ty169 : TyRow := ⟨169, Tryz.t169, by kernel_rfl⟩
noncomputable def ty170 : TyRow := ⟨170, Tryz.t170, by kernel_rfl⟩
noncomputable def ty171 : TyRow := ⟨171, Tryz.t171, by kernel_rfl⟩
noncomputable def ty172 : TyRow := ⟨172, Tryz.t172, by kernel_rfl⟩
noncomputable def ty173 : TyRow := ⟨173, Tryz.t173, by kernel_rfl⟩
noncomputable def ty174 : TyRow := ⟨174, Tryz.t174, by kernel_rfl⟩
noncomputable def ty175 : TyRow := ⟨175, Tryz.t175, by kernel_rfl⟩
noncomputable def ty176 : TyRow := ⟨176, Tryz.t176, by kernel_rfl⟩
noncomputable def ty177 : TyRow := ⟨177, Tryz.t177, by kernel_rfl⟩
noncomputable def ty178 : TyRow := ⟨178, Tryz.t178, by kernel_rfl⟩
noncomputable def ty179 : TyRow := ⟨179, Tryz.t179, by kernel_rfl⟩
noncomputable def ty180 : TyRow := ⟨180, Tryz.t180, by kernel_rfl⟩
noncomputable def ty181 : TyRow := ⟨181, Tryz.t181, by kernel_rfl⟩
noncomputable def ty182 : TyRow := ⟨182, Tryz.t182, by kernel_rfl⟩
noncomputable def ty183 : TyRow := ⟨183, Tryz.t183, by kernel_rfl⟩
noncomputable def ty184 : TyRow := ⟨184, Tryz.t184, by kernel_rfl⟩
noncomputable def ty185 : TyRow := ⟨185, Tryz.t185, by kernel_rfl⟩
noncomputable def ty186 : TyRow := ⟨186, Tryz.t186, by kernel_rfl⟩
noncomputable def ty187 : TyRow := ⟨187, Tryz.t187, by kernel_rfl⟩
noncomputable def ty188 : TyRow := ⟨188, Tryz.t188, by kernel_rfl⟩
noncomputable def ty189 : TyRow := ⟨189, Tryz.t189, by kernel_rfl⟩
noncomputable def ty190 : TyRow := ⟨190, Tryz.t190, by kernel_rfl⟩
noncomputable def ty191 : TyRow := ⟨191, Tryz.t191, by kernel_rfl⟩
noncomputable def ty192 : TyRow := ⟨192, Tryz.t192, by kernel_rfl⟩
noncomputable def ty193 : TyRow := ⟨193, Tryz.t193, by kernel_rfl⟩
noncomputable def ty194 : TyRow := ⟨194, Tryz.t194, by kernel_rfl⟩
noncomputable def ty195 : TyRow := ⟨195, Tryz.t195, by kernel_rfl⟩
noncomputable def ty196 : TyRow := ⟨196, Tryz.t196, by kernel_rfl⟩
noncomputable def ty197 : TyRow := ⟨197, Tryz.t197, by kernel_rfl⟩
noncomputable def ty198 : TyRow := ⟨198, Tryz.t198, by kernel_rfl⟩
noncomputable def ty199 : TyRow := ⟨199, Tryz.t199, by kernel_rfl⟩
noncomputable def ty200 : TyRow := ⟨200, Tryz.t200, by kernel_rfl⟩
noncomputable def ty201 : TyRow := ⟨201, Tryz.t201, by kernel_rfl⟩
noncomputable def ty202 : TyRow := ⟨202, Tryz.t202, by kernel_rfl⟩
noncomputable def ty203 : TyRow := ⟨203, Tryz.t203, by kernel_rfl⟩
noncomputable def ty204 : TyRow := ⟨204, Tryz.t204, by kernel_rfl⟩
noncomputable def ty205 : TyRow := ⟨205, Tryz.t205, by kernel_rfl⟩
noncomputable def ty206 : TyRow := ⟨206, Tryz.t206, by kernel_rfl⟩
noncomputable def ty207 : TyRow := ⟨207, Tryz.t207, by kernel_rfl⟩
noncomputable def ty208 : TyRow := ⟨208, Tryz.t208, by kernel_rfl⟩
noncomputable def ty209 : TyRow := ⟨209, Tryz.t209, by kernel_rfl⟩
noncomputable def ty210 : TyRow := ⟨210, Tryz.t210, by kernel_rfl⟩
noncomputable def ty211 : TyRow := ⟨211, Tryz.t211, by kernel_rfl⟩
noncomputable def ty212 : TyRow := ⟨212, Tryz.t212, by kernel_rfl⟩
noncomputable def ty213 : TyRow := ⟨213, Tryz.t213, by kernel_rfl⟩
noncomputable def ty214 : TyRow := ⟨214, Tryz.t214, by kernel_rfl⟩
noncomputable def ty215 : TyRow := ⟨215, Tryz.t215, by kernel_rfl⟩
noncomputable def ty216 : TyRow := ⟨216, Tryz.t216, by kernel_rfl⟩
noncomputable def ty217 : TyRow := ⟨217, Tryz.t217, by kernel_rfl⟩
noncomputable def ty218 : TyRow := ⟨218, Tryz.t218, by kernel_rfl⟩
noncomputable def ty219 : TyRow := ⟨219, Tryz.t219, by kernel_rfl⟩
noncomputable def ty220 : TyRow := ⟨220, Tryz.t220, by kernel_rfl⟩
noncomputable def ty221 : TyRow := ⟨221, Tryz.t221, by kernel_rfl⟩
noncomputable def ty222 : TyRow := ⟨222, Tryz.t222, by kernel_rfl⟩
noncomputable def ty223 : TyRow := ⟨223, Tryz.t223, by kernel_rfl⟩
noncomputable def ty224 : TyRow := ⟨224, Tryz.t224, by kernel_rfl⟩
noncomputable def ty225 : TyRow := ⟨225, Tryz.t225, by kernel_rfl⟩
noncomputable def ty226 : TyRow := ⟨226, Tryz.t226, by kernel_rfl⟩
noncomputable def ty227 : TyRow := ⟨227, Tryz.t227, by kernel_rfl⟩
noncomputable def ty228 : TyRow := ⟨228, Tryz.t228, by kernel_rfl⟩
noncomputable def ty229 : TyRow := ⟨229, Tryz.t229, by kernel_rfl⟩
noncomputable def ty230 : TyRow := ⟨230, Tryz.t230, by kernel_rfl⟩
noncomputable def ty231 : TyRow := ⟨231, Tryz.t231, by kernel_rfl⟩
noncomputable def ty232 : TyRow := ⟨232, Tryz.t232, by kernel_rfl⟩
noncomputable def ty233 : TyRow := ⟨233, Tryz.t233, by kernel_rfl⟩
noncomputable def ty234 : TyRow := ⟨234, Tryz.t234, by kernel_rfl⟩
noncomputable def ty235 : TyRow := ⟨235, Tryz.t235, by kernel_rfl⟩
noncomputable def ty236 : TyRow := ⟨236, Tryz.t236, by kernel_rfl⟩
noncomputable def ty237 : TyRow := ⟨237, Tryz.t237, by kernel_rfl⟩
noncomputable def ty238 : TyRow := ⟨238, Tryz.t238, by kernel_rfl⟩
noncomputable def ty239 : TyRow := ⟨239, Tryz.t239, by kernel_rfl⟩
noncomputable def ty240 : TyRow := ⟨240, Tryz.t240, by kernel_rfl⟩
noncomputable def ty241 : TyRow := ⟨241, Tryz.t241, by kernel_rfl⟩
noncomputable def ty242 : TyRow := ⟨242, Tryz.t242, by kernel_rfl⟩
noncomputable def ty243 : TyRow := ⟨243, Tryz.t243, by kernel_rfl⟩
noncomputable def ty244 : TyRow := ⟨244, Tryz.t244, by kernel_rfl⟩
noncomputable def ty245 : TyRow := ⟨245, Tryz.t245, by kernel_rfl⟩
noncomputable def ty246 : TyRow := ⟨246, Tryz.t246, by kernel_rfl⟩
noncomputable def ty247 : TyRow := ⟨247, Tryz.t247, by kernel_rfl⟩
noncomputable def ty248 : TyRow := ⟨248, Tryz.t248, by kernel_rfl⟩
noncomputable def ty249 : TyRow := ⟨249, Tryz.t249, by kernel_rfl⟩
noncomputable def ty250 : TyRow := ⟨250, Tryz.t250, by kernel_rfl⟩
noncomputable def ty251 : TyRow := ⟨251, Tryz.t251, by kernel_rfl⟩
noncomputable def ty252 : TyRow := ⟨252, Tryz.t252, by kernel_rfl⟩
noncomputable def ty253 : TyRow := ⟨253, Tryz.t253, by kernel_rfl⟩
noncomputable def ty254 : TyRow := ⟨254, Tryz.t254, by kernel_rfl⟩
noncomputable def ty255 : TyRow := ⟨255, Tryz.t255, by kernel_rfl⟩
noncomputable def ty256 : TyRow := ⟨256, Tryz.t256, by kernel_rfl⟩
noncomputable def ty257 : TyRow := ⟨257, Tryz.t257, by kernel_rfl⟩
noncomputable def ty258 : TyRow := ⟨258, Tryz.t258, by kernel_rfl⟩
noncomputable def ty259 : TyRow := ⟨259, Tryz.t259, by kernel_rfl⟩
noncomputable def ty260 : TyRow := ⟨260, Tryz.t260, by kernel_rfl⟩
noncomputable def ty261 : TyRow := ⟨261, Tryz.t261, by kernel_rfl⟩
noncomputable def ty262 : TyRow := ⟨262, Tryz.t262, by kernel_rfl⟩
noncomputable def ty263 : TyRow := ⟨263, Tryz.t263, by kernel_rfl⟩
noncomputable def ty264 : TyRow := ⟨264, Tryz.t264, by kernel_rfl⟩
noncomputable def ty265 : TyRow := ⟨265, Tryz.t265, by kernel_rfl⟩
noncomputable def ty266 : TyRow := ⟨266, Tryz.t266, by kernel_rfl⟩
noncomputable def ty267 : TyRow := ⟨267, Tryz.t267, by kernel_rfl⟩
noncomputable def ty268 : TyRow := ⟨268, Tryz.t268, by kernel_rfl⟩
noncomputable def ty269 : TyRow := ⟨269, Tryz.t269, by kernel_rfl⟩
noncomputable def ty270 : TyRow := ⟨270, Tryz.t270, by kernel_rfl⟩
noncomputable def ty271 : TyRow := ⟨271, Tryz.t271, by kernel_rfl⟩
noncomputable def ty272 : TyRow := ⟨272, Tryz.t272, by kernel_rfl⟩
noncomputable def ty273 : TyRow := ⟨273, Tryz.t273, by kernel_rfl⟩
noncomputable def ty274 : TyRow := ⟨274, Tryz.t274, by kernel_rfl⟩
noncomputable def ty275 : TyRow := ⟨275, Tryz.t275, by kernel_rfl⟩
noncomputable def ty276 : TyRow := ⟨276, Tryz.t276, by kernel_rfl⟩
noncomputable def ty277 : TyRow := ⟨277, Tryz.t277, by kernel_rfl⟩
noncomputable def ty278 : TyRow := ⟨278, Tryz.t278, by kernel_rfl⟩
noncomputable def ty279 : TyRow := ⟨279, Tryz.t279, by kernel_rfl⟩
noncomputable def ty280 : TyRow := ⟨280, Tryz.t280, by kernel_rfl⟩
noncomputable def ty281 : TyRow := ⟨281, Tryz.t281, by kernel_rfl⟩
noncomputable def ty282 : TyRow := ⟨282, Tryz.t282, by kernel_rfl⟩
noncomputable def ty283 : TyRow := ⟨283, Tryz.t283, by kernel_rfl⟩
noncomputable def ty284 : TyRow := ⟨284, Tryz.t284, by kernel_rfl⟩
noncomputable def ty285 : TyRow := ⟨285, Tryz.t285, by kernel_rfl⟩
noncomputable def ty286 : TyRow := ⟨286, Tryz.t286, by kernel_rfl⟩
noncomputable def ty287 : TyRow := ⟨287, Tryz.t287, by kernel_rfl⟩
noncomputable def ty288 : TyRow := ⟨288, Tryz.t288, by kernel_rfl⟩
noncomputable def ty289 : TyRow := ⟨289, Tryz.t289, by kernel_rfl⟩
noncomputable def ty290 : TyRow := ⟨290, Tryz.t290, by kernel_rfl⟩
noncomputable def ty291 : TyRow := ⟨291, Tryz.t291, by kernel_rfl⟩
noncomputable def ty292 : TyRow := ⟨292, Tryz.t292, by kernel_rfl⟩
noncomputable def ty293 : TyRow := ⟨293, Tryz.t293, by kernel_rfl⟩
noncomputable def ty294 : TyRow := ⟨294, Tryz.t294, by kernel_rfl⟩
noncomputable def ty295 : TyRow := ⟨295, Tryz.t295, by kernel_rfl⟩
noncomputable def ty296 : TyRow := ⟨296, Tryz.t296, by kernel_rfl⟩
noncomputable def ty297 : TyRow := ⟨297, Tryz.t297, by kernel_rfl⟩
noncomputable def ty298 : TyRow := ⟨298, Tryz.t298, by kernel_rfl⟩
noncomputable def ty299 : TyRow := ⟨299, Tryz.t299, by kernel_rfl⟩
noncomputable def ty300 : TyRow := ⟨300, Tryz.t300, by kernel_rfl⟩
noncomputable def ty301 : TyRow := ⟨301, Tryz.t301, by kernel_rfl⟩
noncomputable def ty302 : TyRow := ⟨302, Tryz.t302, by kernel_rfl⟩
noncomputable def ty303 : TyRow := ⟨303, Tryz.t303, by kernel_rfl⟩
noncomputable def ty304 : TyRow := ⟨304, Tryz.t304, by kernel_rfl⟩
noncomputable def ty305 : TyRow := ⟨305, Tryz.t305, by kernel_rfl⟩
noncomputable def ty306 : TyRow := ⟨306, Tryz.t306, by kernel_rfl⟩
noncomputable def ty307 : TyRow := ⟨307, Tryz.t307, by kernel_rfl⟩
noncomputable def ty308 : TyRow := ⟨308, Tryz.t308, by kernel_rfl⟩
noncomputable def ty309 : TyRow := ⟨309, Tryz.t309, by kernel_rfl⟩
noncomputable def ty310 : TyRow := ⟨310, Tryz.t310, by kernel_rfl⟩
noncomputable def ty311 : TyRow := ⟨311, Tryz.t311, by kernel_rfl⟩
noncomputable def ty312 : TyRow := ⟨312, Tryz.t312, by kernel_rfl⟩
noncomputable def ty313 : TyRow := ⟨313, Tryz.t313, by kernel_rfl⟩
noncomputable def ty314 : TyRow := ⟨314, Tryz.t314, by kernel_rfl⟩
noncomputable def ty315 : TyRow := ⟨315, Tryz.t315, by kernel_rfl⟩
noncomputable def ty316 : TyRow := ⟨316, Tryz.t316, by kernel_rfl⟩
noncomputable def ty317 : TyRow := ⟨317, Tryz.t317, by kernel_rfl⟩
noncomputable def ty318 : TyRow := ⟨318, Tryz.t318, by kernel_rfl⟩
noncomputable def ty319 : TyRow := ⟨319, Tryz.t319, by kernel_rfl⟩
noncomputable def ty320 : TyRow := ⟨320, Tryz.t320, by kernel_rfl⟩
noncomputable def ty321 : TyRow := ⟨321, Tryz.t321, by kernel_rfl⟩
noncomputable def ty322 : TyRow := ⟨322, Tryz.t322, by kernel_rfl⟩
noncomputable def ty323 : TyRow := ⟨323, Tryz.t323, by kernel_rfl⟩
noncomputable def ty324 : TyRow := ⟨324, Tryz.t324, by kernel_rfl⟩
noncomputable def ty325 : TyRow := ⟨325, Tryz.t325, by kernel_rfl⟩
noncomputable def ty326 : TyRow := ⟨326, Tryz.t326, by kernel_rfl⟩
noncomputable def ty327 : TyRow := ⟨327, Tryz.t327, by kernel_rfl⟩
noncomputable def ty328 : TyRow := ⟨328, Tryz.t328, by kernel_rfl⟩
noncomputable def ty329 : TyRow := ⟨329, Tryz.t329, by kernel_rfl⟩
noncomputable def ty330 : TyRow := ⟨330, Tryz.t330, by kernel_rfl⟩
noncomputable def ty331 : TyRow := ⟨331, Tryz.t331, by kernel_rfl⟩
noncomputable def ty332 : TyRow := ⟨332, Tryz.t332, by kernel_rfl⟩
noncomputable def ty333 : TyRow := ⟨333, Tryz.t333, by kernel_rfl⟩
noncomputable def ty334 : TyRow := ⟨334, Tryz.t334, by kernel_rfl⟩
noncomputable def ty335 : TyRow := ⟨335, Tryz.t335, by kernel_rfl⟩
noncomputable def ty336 : TyRow := ⟨336, Tryz.t336, by kernel_rfl⟩
noncomputable def ty337 : TyRow := ⟨337, Tryz.t337, by kernel_rfl⟩
noncomputable def ty338 : TyRow := ⟨338, Tryz.t338, by kernel_rfl⟩
noncomputable def ty339 : TyRow := ⟨339, Tryz.t339, by kernel_rfl⟩
noncomputable def ty340 : TyRow := ⟨340, Tryz.t340, by kernel_rfl⟩
noncomputable def ty341 : TyRow := ⟨341, Tryz.t341, by kernel_rfl⟩
noncomputable def ty342 : TyRow := ⟨342, Tryz.t342, by kernel_rfl⟩
noncomputable def ty343 : TyRow := ⟨343, Tryz.t343, by kernel_rfl⟩
noncomputable def ty344 : TyRow := ⟨344, Tryz.t344, by kernel_rfl⟩
noncomputable def ty345 : TyRow := ⟨345, Tryz.t345, by kernel_rfl⟩
noncomputable def ty346 : TyRow := ⟨346, Tryz.t346, by kernel_rfl⟩

noncomputable def tyTree : BT TyRow := (.node (.node (.node (.node (.node (.node (.node (.node (.node .leaf none (.node .leaf (some ty256) .leaf)) none (.node .leaf (some ty128) .leaf)) none (.node (.node .leaf none (.node .leaf (some ty320) .leaf)) (some ty64) (.node .leaf (some ty192) .leaf))) none (.node (.node (.node .leaf none (.node .leaf (some ty288) .leaf)) none (.node .leaf (some ty160) .leaf)) (some ty32) (.node .leaf (some ty96) (.node .leaf (some ty224) .leaf)))) none (.node (.node (.node (.node .leaf none (.node .leaf (some ty272) .leaf)) none (.node .leaf (some ty144) .leaf)) none (.node (.node .leaf none (.node .leaf (some ty336) .leaf)) (some ty80) (.node .leaf (some ty208) .leaf))) (some ty16) (.node (.node (.node .leaf none (.node .leaf (some ty304) .leaf)) none (.node .leaf (some ty176) .leaf)) (some ty48) (.node .leaf (some ty112) (.node .leaf (some ty240) .leaf))))) none (.node (.node (.node (.node (.node .leaf none (.node .leaf (some ty264) .leaf)) none (.node .leaf (some ty136) .leaf)) none (.node (.node .leaf none (.node .leaf (some ty328) .leaf)) (some ty72) (.node .leaf (some ty200) .leaf))) none (.node (.node (.node .leaf none (.node .leaf (some ty296) .leaf)) none (.node .leaf (some ty168) .leaf)) (some ty40) (.node .leaf (some ty104) (.node .leaf (some ty232) .leaf)))) (some ty8) (.node (.node (.node (.node .leaf none (.node .leaf (some ty280) .leaf)) none (.node .leaf (some ty152) .leaf)) none (.node (.node .leaf none (.node .leaf (some ty344) .leaf)) (some ty88) (.node .leaf (some ty216) .leaf))) (some ty24) (.node (.node (.node .leaf none (.node .leaf (some ty312) .leaf)) none (.node .leaf (some ty184) .leaf)) (some ty56) (.node .leaf (some ty120) (.node .leaf (some ty248) .leaf)))))) none (.node (.node (.node (.node (.node (.node .leaf none (.node .leaf (some ty260) .leaf)) none (.node .leaf (some ty132) .leaf)) none (.node (.node .leaf none (.node .leaf (some ty324) .leaf)) (some ty68) (.node .leaf (some ty196) .leaf))) none (.node (.node (.node .leaf none (.node .leaf (some ty292) .leaf)) none (.node .leaf (some ty164) .leaf)) (some ty36) (.node .leaf (some ty100) (.node .leaf (some ty228) .leaf)))) none (.node (.node (.node (.node .leaf none (.node .leaf (some ty276) .leaf)) none (.node .leaf (some ty148) .leaf)) none (.node (.node .leaf none (.node .leaf (some ty340) .leaf)) (some ty84) (.node .leaf (some ty212) .leaf))) (some ty20) (.node (.node (.node .leaf none (.node .leaf (some ty308) .leaf)) none (.node .leaf (some ty180) .leaf)) (some ty52) (.node .leaf (some ty116) (.node .leaf (some ty244) .leaf))))) (some ty4) (.node (.node (.node (.node (.node .leaf none (.node .leaf (some ty268) .leaf)) none (.node .leaf (some ty140) .leaf)) none (.node (.node .leaf none (.node .leaf (some ty332) .leaf)) (some ty76) (.node .leaf (some ty204) .leaf))) none (.node (.node (.node .leaf none (.node .leaf (some ty300) .leaf)) none (.node .leaf (some ty172) .leaf)) (some ty44) (.node .leaf (some ty108) (.node .leaf (some ty236) .leaf)))) (some ty12) (.node (.node (.node (.node .leaf none (.node .leaf (some ty284) .leaf)) none (.node .leaf (some ty156) .leaf)) none (.node .leaf (some ty92) (.node .leaf (some ty220) .leaf))) (some ty28) (.node (.node (.node .leaf none (.node .leaf (some ty316) .leaf)) none (.node .leaf (some ty188) .leaf)) (some ty60) (.node .leaf (some ty124) (.node .leaf (some ty252) .leaf))))))) none (.node (.node (.node (.node (.node (.node (.node .leaf none (.node .leaf (some ty258) .leaf)) none (.node .leaf (some ty130) .leaf)) none (.node (.node .leaf none (.node .leaf (some ty322) .leaf)) (some ty66) (.node .leaf (some ty194) .leaf))) none (.node (.node (.node .leaf none (.node .leaf (some ty290) .leaf)) none (.node .leaf (some ty162) .leaf)) (some ty34) (.node .leaf (some ty98) (.node .leaf (some ty226) .leaf)))) none (.node (.node (.node (.node .leaf none (.node .leaf (some ty274) .leaf)) none (.node .leaf (some ty146) .leaf)) none (.node (.node .leaf none (.node .leaf (some ty338) .leaf)) (some ty82) (.node .leaf (some ty210) .leaf))) (some ty18) (.node (.node (.node .leaf none (.node .leaf (some ty306) .leaf)) none (.node .leaf (some ty178) .leaf)) (some ty50) (.node .leaf (some ty114) (.node .leaf (some ty242) .leaf))))) none (.node (.node (.node (.node (.node .leaf none (.node .leaf (some ty266) .leaf)) none (.node .leaf (some ty138) .leaf)) none (.node (.node .leaf none (.node .leaf (some ty330) .leaf)) (some ty74) (.node .leaf (some ty202) .leaf))) none (.node (.node (.node .leaf none (.node .leaf (some ty298) .leaf)) none (.node .leaf (some ty170) .leaf)) (some ty42) (.node .leaf (some ty106) (.node .leaf (some ty234) .leaf)))) (some ty10) (.node (.node (.node (.node .leaf none (.node .leaf (some ty282) .leaf)) none (.node .leaf (some ty154) .leaf)) none (.node (.node .leaf none (.node .leaf (some ty346) .leaf)) (some ty90) (.node .leaf (some ty218) .leaf))) (some ty26) (.node (.node (.node .leaf none (.node .leaf (some ty314) .leaf)) none (.node .leaf (some ty186) .leaf)) (some ty58) (.node .leaf (some ty122) (.node .leaf (some ty250) .leaf)))))) (some ty2) (.node (.node (.node (.node (.node (.node .leaf none (.node .leaf (some ty262) .leaf)) none (.node .leaf (some ty134) .leaf)) none (.node (.node .leaf none (.node .leaf (some ty326) .leaf)) (some ty70) (.node .leaf (some ty198) .leaf))) none (.node (.node (.node .leaf none (.node .leaf (some ty294) .leaf)) none (.node .leaf (some ty166) .leaf)) (some ty38) (.node .leaf (some ty102) (.node .leaf (some ty230) .leaf)))) none (.node (.node (.node (.node .leaf none (.node .leaf (some ty278) .leaf)) none (.node .leaf (some ty150) .leaf)) none (.node (.node .leaf none (.node .leaf (some ty342) .leaf)) (some ty86) (.node .leaf (some ty214) .leaf))) (some ty22) (.node (.node (.node .leaf none (.node .leaf (some ty310) .leaf)) none (.node .leaf (some ty182) .leaf)) (some ty54) (.node .leaf (some ty118) (.node .leaf (some ty246) .leaf))))) (some ty6) (.node (.node (.node (.node (.node .leaf none (.node .leaf (some ty270) .leaf)) none (.node .leaf (some ty142) .leaf)) none (.node (.node .leaf none (.node .leaf (some ty334) .leaf)) (some ty78) (.node .leaf (some ty206) .leaf))) none (.node (.node (.node .leaf none (.node .leaf (some ty302) .leaf)) none (.node .leaf (some ty174) .leaf)) (some ty46) (.node .leaf (some ty110) (.node .leaf (some ty238) .leaf)))) (some ty14) (.node (.node (.node (.node .leaf none (.node .leaf (some ty286) .leaf)) none (.node .leaf (some ty158) .leaf)) none (.node .leaf (some ty94) (.node .leaf (some ty222) .leaf))) (some ty30) (.node (.node (.node .leaf none (.node .leaf (some ty318) .leaf)) none (.node .leaf (some ty190) .leaf)) (some ty62) (.node .leaf (some ty126) (.node .leaf (some ty254) .leaf)))))))) (some ty0) (.node (.node (.node (.node (.node (.node (.node (.node .leaf none (.node .leaf (some ty257) .leaf)) none (.node .leaf (some ty129) .leaf)) none (.node (.node .leaf none (.node .leaf (some ty321) .leaf)) (some ty65) (.node .leaf (some ty193) .leaf))) none (.node (.node (.node .leaf none (.node .leaf (some ty289) .leaf)) none (.node .leaf (some ty161) .leaf)) (some ty33) (.node .leaf (some ty97) (.node .leaf (some ty225) .leaf)))) none (.node (.node (.node (.node .leaf none (.node .leaf (some ty273) .leaf)) none (.node .leaf (some ty145) .leaf)) none (.node (.node .leaf none (.node .leaf (some ty337) .leaf)) (some ty81) (.node .leaf (some ty209) .leaf))) (some ty17) (.node (.node (.node .leaf none (.node .leaf (some ty305) .leaf)) none (.node .leaf (some ty177) .leaf)) (some ty49) (.node .leaf (some ty113) (.node .leaf (some ty241) .leaf))))) none (.node (.node (.node (.node (.node .leaf none (.node .leaf (some ty265) .leaf)) none (.node .leaf (some ty137) .leaf)) none (.node (.node .leaf none (.node .leaf (some ty329) .leaf)) (some ty73) (.node .leaf (some ty201) .leaf))) none (.node (.node (.node .leaf none (.node .leaf (some ty297) .leaf)) none (.node .leaf (some ty169) .leaf)) (some ty41) (.node .leaf (some ty105) (.node .leaf (some ty233) .leaf)))) (some ty9) (.node (.node (.node (.node .leaf none (.node .leaf (some ty281) .leaf)) none (.node .leaf (some ty153) .leaf)) none (.node (.node .leaf none (.node .leaf (some ty345) .leaf)) (some ty89) (.node .leaf (some ty217) .leaf))) (some ty25) (.node (.node (.node .leaf none (.node .leaf (some ty313) .leaf)) none (.node .leaf (some ty185) .leaf)) (some ty57) (.node .leaf (some ty121) (.node .leaf (some ty249) .leaf)))))) none (.node (.node (.node (.node (.node (.node .leaf none (.node .leaf (some ty261) .leaf)) none (.node .leaf (some ty133) .leaf)) none (.node (.node .leaf none (.node .leaf (some ty325) .leaf)) (some ty69) (.node .leaf (some ty197) .leaf))) none (.node (.node (.node .leaf none (.node .leaf (some ty293) .leaf)) none (.node .leaf (some ty165) .leaf)) (some ty37) (.node .leaf (some ty101) (.node .leaf (some ty229) .leaf)))) none (.node (.node (.node (.node .leaf none (.node .leaf (some ty277) .leaf)) none (.node .leaf (some ty149) .leaf)) none (.node (.node .leaf none (.node .leaf (some ty341) .leaf)) (some ty85) (.node .leaf (some ty213) .leaf))) (some ty21) (.node (.node (.node .leaf none (.node .leaf (some ty309) .leaf)) none (.node .leaf (some ty181) .leaf)) (some ty53) (.node .leaf (some ty117) (.node .leaf (some ty245) .leaf))))) (some ty5) (.node (.node (.node (.node (.node .leaf none (.node .leaf (some ty269) .leaf)) none (.node .leaf (some ty141) .leaf)) none (.node (.node .leaf none (.node .leaf (some ty333) .leaf)) (some ty77) (.node .leaf (some ty205) .leaf))) none (.node (.node (.node .leaf none (.node .leaf (some ty301) .leaf)) none (.node .leaf (some ty173) .leaf)) (some ty45) (.node .leaf (some ty109) (.node .leaf (some ty237) .leaf)))) (some ty13) (.node (.node (.node (.node .leaf none (.node .leaf (some ty285) .leaf)) none (.node .leaf (some ty157) .leaf)) none (.node .leaf (some ty93) (.node .leaf (some ty221) .leaf))) (some ty29) (.node (.node (.node .leaf none (.node .leaf (some ty317) .leaf)) none (.node .leaf (some ty189) .leaf)) (some ty61) (.node .leaf (some ty125) (.node .leaf (some ty253) .leaf))))))) (some ty1) (.node (.node (.node (.node (.node (.node (.node .leaf none (.node .leaf (some ty259) .leaf)) none (.node .leaf (some ty131) .leaf)) none (.node (.node .leaf none (.node .leaf (some ty323) .leaf)) (some ty67) (.node .leaf (some ty195) .leaf))) none (.node (.node (.node .leaf none (.node .leaf (some ty291) .leaf)) none (.node .leaf (some ty163) .leaf)) (some ty35) (.node .leaf (some ty99) (.node .leaf (some ty227) .leaf)))) none (.node (.node (.node (.node .leaf none (.node .leaf (some ty275) .leaf)) none (.node .leaf (some ty147) .leaf)) none (.node (.node .leaf none (.node .leaf (some ty339) .leaf)) (some ty83) (.node .leaf (some ty211) .leaf))) (some ty19) (.node (.node (.node .leaf none (.node .leaf (some ty307) .leaf)) none (.node .leaf (some ty179) .leaf)) (some ty51) (.node .leaf (some ty115) (.node .leaf (some ty243) .leaf))))) none (.node (.node (.node (.node (.node .leaf none (.node .leaf (some ty267) .leaf)) none (.node .leaf (some ty139) .leaf)) none (.node (.node .leaf none (.node .leaf (some ty331) .leaf)) (some ty75) (.node .leaf (some ty203) .leaf))) none (.node (.node (.node .leaf none (.node .leaf (some ty299) .leaf)) none (.node .leaf (some ty171) .leaf)) (some ty43) (.node .leaf (some ty107) (.node .leaf (some ty235) .leaf)))) (some ty11) (.node (.node (.node (.node .leaf none (.node .leaf (some ty283) .leaf)) none (.node .leaf (some ty155) .leaf)) none (.node .leaf (some ty91) (.node .leaf (some ty219) .leaf))) (some ty27) (.node (.node (.node .leaf none (.node .leaf (some ty315) .leaf)) none (.node .leaf (some ty187) .leaf)) (some ty59) (.node .leaf (some ty123) (.node .leaf (some ty251) .leaf)))))) (some ty3) (.node (.node (.node (.node (.node (.node .leaf none (.node .leaf (some ty263) .leaf)) none (.node .leaf (some ty135) .leaf)) none (.node (.node .leaf none (.node .leaf (some ty327) .leaf)) (some ty71) (.node .leaf (some ty199) .leaf))) none (.node (.node (.node .leaf none (.node .leaf (some ty295) .leaf)) none (.node .leaf (some ty167) .leaf)) (some ty39) (.node .leaf (some ty103) (.node .leaf (some ty231) .leaf)))) none (.node (.node (.node (.node .leaf none (.node .leaf (some ty279) .leaf)) none (.node .leaf (some ty151) .leaf)) none (.node (.node .leaf none (.node .leaf (some ty343) .leaf)) (some ty87) (.node .leaf (some ty215) .leaf))) (some ty23) (.node (.node (.node .leaf none (.node .leaf (some ty311) .leaf)) none (.node .leaf (some ty183) .leaf)) (some ty55) (.node .leaf (some ty119) (.node .leaf (some ty247) .leaf))))) (some ty7) (.node (.node (.node (.node (.node .leaf none (.node .leaf (some ty271) .leaf)) none (.node .leaf (some ty143) .leaf)) none (.node (.node .leaf none (.node .leaf (some ty335) .leaf)) (some ty79) (.node .leaf (some ty207) .leaf))) none (.node (.node (.node .leaf none (.node .leaf (some ty303) .leaf)) none (.node .leaf (some ty175) .leaf)) (some ty47) (.node .leaf (some ty111) (.node .leaf (some ty239) .leaf)))) (some ty15) (.node (.node (.node (.node .leaf none (.node .leaf (some ty287) .leaf)) none (.node .leaf (some ty159) .leaf)) none (.node .leaf (some ty95) (.node .leaf (some ty223) .leaf))) (some ty31) (.node (.node (.node .leaf none (.node .leaf (some ty319) .leaf)) none (.node .leaf (some ty191) .leaf)) (some ty63) (.node .leaf (some ty127) (.node .leaf (some ty255) .leaf)))))))))

noncomputable def tyAt (t : TypeId) : Option TypeInfo :=
  match tyTree.get (bits t t) with
  | some r => match Nat.beq r.num t with
    | true => some r.info
    | false => none
  | none => none
theorem tyAt_ok (t : TypeId) (i : TypeInfo) (h : tyAt t = some i) : Tryz.prog.info? t = some i := by
  unfold tyAt at h
  split at h
  · rename_i r _
    split at h
    · rename_i hb
      cases h
      rw [← Nat.eq_of_beq_eq_true hb]
      exact r.at'
    · cases h
  · cases h

structure ExtRow where
  num : FuncId
  ext : Ext
  is : ExtIs Tryz.prog num ext

noncomputable def ext127 : ExtRow := ⟨127, .clone, ⟨Tryz.f127, Tryz.func127, by kernel_rfl, by kernel_rfl, by kernel_rfl, by kernel_rfl⟩⟩
noncomputable def ext189 : ExtRow := ⟨189, .add64, ⟨Tryz.f189, Tryz.func189, by kernel_rfl, by kernel_rfl, by kernel_rfl, by kernel_rfl⟩⟩
noncomputable def ext190 : ExtRow := ⟨190, .sub64, ⟨Tryz.f190, Tryz.func190, by kernel_rfl, by kernel_rfl, by kernel_rfl, by kernel_rfl⟩⟩

noncomputable def extTree : BT ExtRow := (.node (.node .leaf none (.node .leaf none (.node .leaf none (.node .leaf none (.node .leaf none (.node (.node .leaf none (.node .leaf (some ext190) .leaf)) none .leaf)))))) none (.node (.node .leaf none (.node .leaf none (.node .leaf none (.node .leaf none (.node (.node .leaf none (.node .leaf (some ext189) .leaf)) none .leaf))))) none (.node .leaf none (.node .leaf none (.node .leaf none (.node .leaf none (.node .leaf none (.node .leaf (some ext127) .leaf))))))))

noncomputable def extAt (f : FuncId) : Option Ext :=
  match extTree.get (bits f f) with
  | some r => match Nat.beq r.num f with
    | true => some r.ext
    | false => none
  | none => none
theorem extAt_ok (f : FuncId) (x : Ext) (h : extAt f = some x) : ExtIs Tryz.prog f x := by
  unfold extAt at h
  split at h
  · rename_i r _
    split at h
    · rename_i hb
      cases h
      rw [← Nat.eq_of_beq_eq_true hb]
      exact r.is
    · cases h
  · cases h

theorem stat2 : statAll (btAll 2) (Tryz.f2.body.getD .skip) = true := by kernel_rfl
theorem stat3 : statAll (btAll 3) (Tryz.f3.body.getD .skip) = true := by kernel_rfl
theorem stat4 : statAll (btAll 4) (Tryz.f4.body.getD .skip) = true := by kernel_rfl
theorem stat5 : statAll (btAll 5) (Tryz.f5.body.getD .skip) = true := by kernel_rfl
theorem stat6 : statAll (btAll 6) (Tryz.f6.body.getD .skip) = true := by kernel_rfl
theorem stat7 : statAll (btAll 7) (Tryz.f7.body.getD .skip) = true := by kernel_rfl
theorem stat8 : statAll (btAll 8) (Tryz.f8.body.getD .skip) = true := by kernel_rfl
theorem stat9 : statAll (btAll 9) (Tryz.f9.body.getD .skip) = true := by kernel_rfl
theorem stat10 : statAll (btAll 10) (Tryz.f10.body.getD .skip) = true := by kernel_rfl
theorem stat11 : statAll (btAll 11) (Tryz.f11.body.getD .skip) = true := by kernel_rfl
theorem stat12 : statAll (btAll 12) (Tryz.f12.body.getD .skip) = true := by kernel_rfl
theorem stat13 : statAll (btAll 13) (Tryz.f13.body.getD .skip) = true := by kernel_rfl
theorem stat14 : statAll (btAll 14) (Tryz.f14.body.getD .skip) = true := by kernel_rfl
theorem stat15 : statAll (btAll 15) (Tryz.f15.body.getD .skip) = true := by kernel_rfl
theorem stat16 : statAll (btAll 16) (Tryz.f16.body.getD .skip) = true := by kernel_rfl
theorem stat17 : statAll (btAll 17) (Tryz.f17.body.getD .skip) = true := by kernel_rfl
theorem stat18 : statAll (btAll 18) (Tryz.f18.body.getD .skip) = true := by kernel_rfl
theorem stat19 : statAll (btAll 19) (Tryz.f19.body.getD .skip) = true := by kernel_rfl
theorem stat20 : statAll (btAll 20) (Tryz.f20.body.getD .skip) = true := by kernel_rfl
theorem stat21 : statAll (btAll 21) (Tryz.f21.body.getD .skip) = true := by kernel_rfl
theorem stat22 : statAll (btAll 22) (Tryz.f22.body.getD .skip) = true := by kernel_rfl
theorem stat23 : statAll (btAll 23) (Tryz.f23.body.getD .skip) = true := by kernel_rfl
theorem stat24 : statAll (btAll 24) (Tryz.f24.body.getD .skip) = true := by kernel_rfl
theorem stat25 : statAll (btAll 25) (Tryz.f25.body.getD .skip) = true := by kernel_rfl
theorem stat26 : statAll (btAll 26) (Tryz.f26.body.getD .skip) = true := by kernel_rfl
theorem stat27 : statAll (btAll 27) (Tryz.f27.body.getD .skip) = true := by kernel_rfl
theorem stat28 : statAll (btAll 28) (Tryz.f28.body.getD .skip) = true := by kernel_rfl
theorem stat29 : statAll (btAll 29) (Tryz.f29.body.getD .skip) = true := by kernel_rfl
theorem stat30 : statAll (btAll 30) (Tryz.f30.body.getD .skip) = true := by kernel_rfl
theorem stat31 : statAll (btAll 31) (Tryz.f31.body.getD .skip) = true := by kernel_rfl
theorem stat32 : statAll (btAll 32) (Tryz.f32.body.getD .skip) = true := by kernel_rfl
theorem stat33 : statAll (btAll 33) (Tryz.f33.body.getD .skip) = true := by kernel_rfl
theorem stat34 : statAll (btAll 34) (Tryz.f34.body.getD .skip) = true := by kernel_rfl
theorem stat35 : statAll (btAll 35) (Tryz.f35.body.getD .skip) = true := by kernel_rfl
theorem stat36 : statAll (btAll 36) (Tryz.f36.body.getD .skip) = true := by kernel_rfl
theorem stat37 : statAll (btAll 37) (Tryz.f37.body.getD .skip) = true := by kernel_rfl
theorem stat38 : statAll (btAll 38) (Tryz.f38.body.getD .skip) = true := by kernel_rfl
theorem stat39 : statAll (btAll 39) (Tryz.f39.body.getD .skip) = true := by kernel_rfl
theorem stat40 : statAll (btAll 40) (Tryz.f40.body.getD .skip) = true := by kernel_rfl
theorem stat41 : statAll (btAll 41) (Tryz.f41.body.getD .skip) = true := by kernel_rfl
theorem stat42 : statAll (btAll 42) (Tryz.f42.body.getD .skip) = true := by kernel_rfl
theorem stat43 : statAll (btAll 43) (Tryz.f43.body.getD .skip) = true := by kernel_rfl
theorem stat44 : statAll (btAll 44) (Tryz.f44.body.getD .skip) = true := by kernel_rfl
theorem stat45 : statAll (btAll 45) (Tryz.f45.body.getD .skip) = true := by kernel_rfl
theorem stat46 : statAll (btAll 46) (Tryz.f46.body.getD .skip) = true := by kernel_rfl
theorem stat47 : statAll (btAll 47) (Tryz.f47.body.getD .skip) = true := by kernel_rfl
theorem stat48 : statAll (btAll 48) (Tryz.f48.body.getD .skip) = true := by kernel_rfl
theorem stat49 : statAll (btAll 49) (Tryz.f49.body.getD .skip) = true := by kernel_rfl
theorem stat50 : statAll (btAll 50) (Tryz.f50.body.getD .skip) = true := by kernel_rfl
theorem stat51 : statAll (btAll 51) (Tryz.f51.body.getD .skip) = true := by kernel_rfl
theorem stat52 : statAll (btAll 52) (Tryz.f52.body.getD .skip) = true := by kernel_rfl
theorem stat53 : statAll (btAll 53) (Tryz.f53.body.getD .skip) = true := by kernel_rfl
theorem stat54 : statAll (btAll 54) (Tryz.f54.body.getD .skip) = true := by kernel_rfl
theorem stat55 : statAll (btAll 55) (Tryz.f55.body.getD .skip) = true := by kernel_rfl
theorem stat56 : statAll (btAll 56) (Tryz.f56.body.getD .skip) = true := by kernel_rfl
theorem stat57 : statAll (btAll 57) (Tryz.f57.body.getD .skip) = true := by kernel_rfl
theorem stat58 : statAll (btAll 58) (Tryz.f58.body.getD .skip) = true := by kernel_rfl
theorem stat59 : statAll (btAll 59) (Tryz.f59.body.getD .skip) = true := by kernel_rfl
theorem stat60 : statAll (btAll 60) (Tryz.f60.body.getD .skip) = true := by kernel_rfl
theorem stat61 : statAll (btAll 61) (Tryz.f61.body.getD .skip) = true := by kernel_rfl
theorem stat62 : statAll (btAll 62) (Tryz.f62.body.getD .skip) = true := by kernel_rfl
theorem stat63 : statAll (btAll 63) (Tryz.f63.body.getD .skip) = true := by kernel_rfl
theorem stat64 : statAll (btAll 64) (Tryz.f64.body.getD .skip) = true := by kernel_rfl
theorem stat65 : statAll (btAll 65) (Tryz.f65.body.getD .skip) = true := by kernel_rfl
theorem stat66 : statAll (btAll 66) (Tryz.f66.body.getD .skip) = true := by kernel_rfl
theorem stat67 : statAll (btAll 67) (Tryz.f67.body.getD .skip) = true := by kernel_rfl
theorem stat68 : statAll (btAll 68) (Tryz.f68.body.getD .skip) = true := by kernel_rfl
theorem stat69 : statAll (btAll 69) (Tryz.f69.body.getD .skip) = true := by kernel_rfl
theorem stat70 : statAll (btAll 70) (Tryz.f70.body.getD .skip) = true := by kernel_rfl
theorem stat71 : statAll (btAll 71) (Tryz.f71.body.getD .skip) = true := by kernel_rfl
theorem stat72 : statAll (btAll 72) (Tryz.f72.body.getD .skip) = true := by kernel_rfl
theorem stat73 : statAll (btAll 73) (Tryz.f73.body.getD .skip) = true := by kernel_rfl
theorem stat74 : statAll (btAll 74) (Tryz.f74.body.getD .skip) = true := by kernel_rfl
theorem stat75 : statAll (btAll 75) (Tryz.f75.body.getD .skip) = true := by kernel_rfl
theorem stat76 : statAll (btAll 76) (Tryz.f76.body.getD .skip) = true := by kernel_rfl
theorem stat77 : statAll (btAll 77) (Tryz.f77.body.getD .skip) = true := by kernel_rfl
theorem stat78 : statAll (btAll 78) (Tryz.f78.body.getD .skip) = true := by kernel_rfl
theorem stat79 : statAll (btAll 79) (Tryz.f79.body.getD .skip) = true := by kernel_rfl
theorem stat80 : statAll (btAll 80) (Tryz.f80.body.getD .skip) = true := by kernel_rfl
theorem stat81 : statAll (btAll 81) (Tryz.f81.body.getD .skip) = true := by kernel_rfl
theorem stat82 : statAll (btAll 82) (Tryz.f82.body.getD .skip) = true := by kernel_rfl
theorem stat83 : statAll (btAll 83) (Tryz.f83.body.getD .skip) = true := by kernel_rfl
theorem stat84 : statAll (btAll 84) (Tryz.f84.body.getD .skip) = true := by kernel_rfl
theorem stat85 : statAll (btAll 85) (Tryz.f85.body.getD .skip) = true := by kernel_rfl
theorem stat86 : statAll (btAll 86) (Tryz.f86.body.getD .skip) = true := by kernel_rfl
theorem stat87 : statAll (btAll 87) (Tryz.f87.body.getD .skip) = true := by kernel_rfl
theorem stat88 : statAll (btAll 88) (Tryz.f88.body.getD .skip) = true := by kernel_rfl
theorem stat89 : statAll (btAll 89) (Tryz.f89.body.getD .skip) = true := by kernel_rfl
theorem stat90 : statAll (btAll 90) (Tryz.f90.body.getD .skip) = true := by kernel_rfl
theorem stat91 : statAll (btAll 91) (Tryz.f91.body.getD .skip) = true := by kernel_rfl
theorem stat92 : statAll (btAll 92) (Tryz.f92.body.getD .skip) = true := by kernel_rfl
theorem stat93 : statAll (btAll 93) (Tryz.f93.body.getD .skip) = true := by kernel_rfl
theorem stat94 : statAll (btAll 94) (Tryz.f94.body.getD .skip) = true := by kernel_rfl
theorem stat95 : statAll (btAll 95) (Tryz.f95.body.getD .skip) = true := by kernel_rfl
theorem stat96 : statAll (btAll 96) (Tryz.f96.body.getD .skip) = true := by kernel_rfl
theorem stat97 : statAll (btAll 97) (Tryz.f97.body.getD .skip) = true := by kernel_rfl
theorem stat98 : statAll (btAll 98) (Tryz.f98.body.getD .skip) = true := by kernel_rfl
theorem stat99 : statAll (btAll 99) (Tryz.f99.body.getD .skip) = true := by kernel_rfl
theorem stat100 : statAll (btAll 100) (Tryz.f100.body.getD .skip) = true := by kernel_rfl
theorem stat101 : statAll (btAll 101) (Tryz.f101.body.getD .skip) = true := by kernel_rfl
theorem stat102 : statAll (btAll 102) (Tryz.f102.body.getD .skip) = true := by kernel_rfl
theorem stat103 : statAll (btAll 103) (Tryz.f103.body.getD .skip) = true := by kernel_rfl
theorem stat104 : statAll (btAll 104) (Tryz.f104.body.getD .skip) = true := by kernel_rfl
theorem stat105 : statAll (btAll 105) (Tryz.f105.body.getD .skip) = true := by kernel_rfl
theorem stat106 : statAll (btAll 106) (Tryz.f106.body.getD .skip) = true := by kernel_rfl
theorem stat107 : statAll (btAll 107) (Tryz.f107.body.getD .skip) = true := by kernel_rfl
theorem stat108 : statAll (btAll 108) (Tryz.f108.body.getD .skip) = true := by kernel_rfl
theorem stat109 : statAll (btAll 109) (Tryz.f109.body.getD .skip) = true := by kernel_rfl
theorem stat110 : statAll (btAll 110) (Tryz.f110.body.getD .skip) = true := by kernel_rfl
theorem stat111 : statAll (btAll 111) (Tryz.f111.body.getD .skip) = true := by kernel_rfl
theorem stat112 : statAll (btAll 112) (Tryz.f112.body.getD .skip) = true := by kernel_rfl
theorem stat113 : statAll (btAll 113) (Tryz.f113.body.getD .skip) = true := by kernel_rfl
theorem stat114 : statAll (btAll 114) (Tryz.f114.body.getD .skip) = true := by kernel_rfl
theorem stat115 : statAll (btAll 115) (Tryz.f115.body.getD .skip) = true := by kernel_rfl
theorem stat116 : statAll (btAll 116) (Tryz.f116.body.getD .skip) = true := by kernel_rfl
theorem stat117 : statAll (btAll 117) (Tryz.f117.body.getD .skip) = true := by kernel_rfl
theorem stat118 : statAll (btAll 118) (Tryz.f118.body.getD .skip) = true := by kernel_rfl
theorem stat119 : statAll (btAll 119) (Tryz.f119.body.getD .skip) = true := by kernel_rfl
theorem stat120 : statAll (btAll 120) (Tryz.f120.body.getD .skip) = true := by kernel_rfl
theorem stat121 : statAll (btAll 121) (Tryz.f121.body.getD .skip) = true := by kernel_rfl
theorem stat122 : statAll (btAll 122) (Tryz.f122.body.getD .skip) = true := by kernel_rfl
theorem stat123 : statAll (btAll 123) (Tryz.f123.body.getD .skip) = true := by kernel_rfl
theorem stat124 : statAll (btAll 124) (Tryz.f124.body.getD .skip) = true := by kernel_rfl
theorem stat125 : statAll (btAll 125) (Tryz.f125.body.getD .skip) = true := by kernel_rfl
theorem stat126 : statAll (btAll 126) (Tryz.f126.body.getD .skip) = true := by kernel_rfl
theorem stat128 : statAll (btAll 128) (Tryz.f128.body.getD .skip) = true := by kernel_rfl
theorem stat129 : statAll (btAll 129) (Tryz.f129.body.getD .skip) = true := by kernel_rfl
theorem stat130 : statAll (btAll 130) (Tryz.f130.body.getD .skip) = true := by kernel_rfl
theorem stat131 : statAll (btAll 131) (Tryz.f131.body.getD .skip) = true := by kernel_rfl
theorem stat132 : statAll (btAll 132) (Tryz.f132.body.getD .skip) = true := by kernel_rfl
theorem stat133 : statAll (btAll 133) (Tryz.f133.body.getD .skip) = true := by kernel_rfl
theorem stat134 : statAll (btAll 134) (Tryz.f134.body.getD .skip) = true := by kernel_rfl
theorem stat135 : statAll (btAll 135) (Tryz.f135.body.getD .skip) = true := by kernel_rfl
theorem stat136 : statAll (btAll 136) (Tryz.f136.body.getD .skip) = true := by kernel_rfl
theorem stat137 : statAll (btAll 137) (Tryz.f137.body.getD .skip) = true := by kernel_rfl
theorem stat138 : statAll (btAll 138) (Tryz.f138.body.getD .skip) = true := by kernel_rfl
theorem stat139 : statAll (btAll 139) (Tryz.f139.body.getD .skip) = true := by kernel_rfl
theorem stat140 : statAll (btAll 140) (Tryz.f140.body.getD .skip) = true := by kernel_rfl
theorem stat141 : statAll (btAll 141) (Tryz.f141.body.getD .skip) = true := by kernel_rfl
theorem stat142 : statAll (btAll 142) (Tryz.f142.body.getD .skip) = true := by kernel_rfl
theorem stat143 : statAll (btAll 143) (Tryz.f143.body.getD .skip) = true := by kernel_rfl
theorem stat144 : statAll (btAll 144) (Tryz.f144.body.getD .skip) = true := by kernel_rfl
theorem stat145 : statAll (btAll 145) (Tryz.f145.body.getD .skip) = true := by kernel_rfl
theorem stat146 : statAll (btAll 146) (Tryz.f146.body.getD .skip) = true := by kernel_rfl
theorem stat147 : statAll (btAll 147) (Tryz.f147.body.getD .skip) = true := by kernel_rfl
theorem stat148 : statAll (btAll 148) (Tryz.f148.body.getD .skip) = true := by kernel_rfl
theorem stat149 : statAll (btAll 149) (Tryz.f149.body.getD .skip) = true := by kernel_rfl
theorem stat150 : statAll (btAll 150) (Tryz.f150.body.getD .skip) = true := by kernel_rfl
theorem stat151 : statAll (btAll 151) (Tryz.f151.body.getD .skip) = true := by kernel_rfl
theorem stat152 : statAll (btAll 152) (Tryz.f152.body.getD .skip) = true := by kernel_rfl
theorem stat153 : statAll (btAll 153) (Tryz.f153.body.getD .skip) = true := by kernel_rfl
theorem stat154 : statAll (btAll 154) (Tryz.f154.body.getD .skip) = true := by kernel_rfl
theorem stat155 : statAll (btAll 155) (Tryz.f155.body.getD .skip) = true := by kernel_rfl
theorem stat156 : statAll (btAll 156) (Tryz.f156.body.getD .skip) = true := by kernel_rfl
theorem stat157 : statAll (btAll 157) (Tryz.f157.body.getD .skip) = true := by kernel_rfl
theorem stat158 : statAll (btAll 158) (Tryz.f158.body.getD .skip) = true := by kernel_rfl
theorem stat159 : statAll (btAll 159) (Tryz.f159.body.getD .skip) = true := by kernel_rfl
theorem stat160 : statAll (btAll 160) (Tryz.f160.body.getD .skip) = true := by kernel_rfl
theorem stat161 : statAll (btAll 161) (Tryz.f161.body.getD .skip) = true := by kernel_rfl
theorem stat162 : statAll (btAll 162) (Tryz.f162.body.getD .skip) = true := by kernel_rfl
theorem stat163 : statAll (btAll 163) (Tryz.f163.body.getD .skip) = true := by kernel_rfl
theorem stat164 : statAll (btAll 164) (Tryz.f164.body.getD .skip) = true := by kernel_rfl
theorem stat165 : statAll (btAll 165) (Tryz.f165.body.getD .skip) = true := by kernel_rfl
theorem stat166 : statAll (btAll 166) (Tryz.f166.body.getD .skip) = true := by kernel_rfl
theorem stat167 : statAll (btAll 167) (Tryz.f167.body.getD .skip) = true := by kernel_rfl
theorem stat168 : statAll (btAll 168) (Tryz.f168.body.getD .skip) = true := by kernel_rfl
theorem stat169 : statAll (btAll 169) (Tryz.f169.body.getD .skip) = true := by kernel_rfl
theorem stat170 : statAll (btAll 170) (Tryz.f170.body.getD .skip) = true := by kernel_rfl
theorem stat171 : statAll (btAll 171) (Tryz.f171.body.getD .skip) = true := by kernel_rfl
theorem stat172 : statAll (btAll 172) (Tryz.f172.body.getD .skip) = true := by kernel_rfl
theorem stat173 : statAll (btAll 173) (Tryz.f173.body.getD .skip) = true := by kernel_rfl
theorem stat174 : statAll (btAll 174) (Tryz.f174.body.getD .skip) = true := by kernel_rfl
theorem stat175 : statAll (btAll 175) (Tryz.f175.body.getD .skip) = true := by kernel_rfl
theorem stat176 : statAll (btAll 176) (Tryz.f176.body.getD .skip) = true := by kernel_rfl
theorem stat177 : statAll (btAll 177) (Tryz.f177.body.getD .skip) = true := by kernel_rfl
theorem stat178 : statAll (btAll 178) (Tryz.f178.body.getD .skip) = true := by kernel_rfl
theorem stat179 : statAll (btAll 179) (Tryz.f179.body.getD .skip) = true := by kernel_rfl
theorem stat180 : statAll (btAll 180) (Tryz.f180.body.getD .skip) = true := by kernel_rfl
theorem stat181 : statAll (btAll 181) (Tryz.f181.body.getD .skip) = true := by kernel_rfl
theorem stat182 : statAll (btAll 182) (Tryz.f182.body.getD .skip) = true := by kernel_rfl
theorem stat183 : statAll (btAll 183) (Tryz.f183.body.getD .skip) = true := by kernel_rfl
theorem stat184 : statAll (btAll 184) (Tryz.f184.body.getD .skip) = true := by kernel_rfl
theorem stat185 : statAll (btAll 185) (Tryz.f185.body.getD .skip) = true := by kernel_rfl
theorem stat186 : statAll (btAll 186) (Tryz.f186.body.getD .skip) = true := by kernel_rfl
theorem stat187 : statAll (btAll 187) (Tryz.f187.body.getD .skip) = true := by kernel_rfl
theorem stat188 : statAll (btAll 188) (Tryz.f188.body.getD .skip) = true := by kernel_rfl
theorem stat191 : statAll (btAll 191) (Tryz.f191.body.getD .skip) = true := by kernel_rfl
theorem stat192 : statAll (btAll 192) (Tryz.f192.body.getD .skip) = true := by kernel_rfl
theorem stat193 : statAll (btAll 193) (Tryz.f193.body.getD .skip) = true := by kernel_rfl
theorem stat194 : statAll (btAll 194) (Tryz.f194.body.getD .skip) = true := by kernel_rfl
theorem stat195 : statAll (btAll 195) (Tryz.f195.body.getD .skip) = true := by kernel_rfl
theorem stat196 : statAll (btAll 196) (Tryz.f196.body.getD .skip) = true := by kernel_rfl
theorem stat197 : statAll (btAll 197) (Tryz.f197.body.getD .skip) = true := by kernel_rfl
theorem stat198 : statAll (btAll 198) (Tryz.f198.body.getD .skip) = true := by kernel_rfl
theorem stat199 : statAll (btAll 199) (Tryz.f199.body.getD .skip) = true := by kernel_rfl
theorem stat200 : statAll (btAll 200) (Tryz.f200.body.getD .skip) = true := by kernel_rfl
theorem stat201 : statAll (btAll 201) (Tryz.f201.body.getD .skip) = true := by kernel_rfl
theorem stat202 : statAll (btAll 202) (Tryz.f202.body.getD .skip) = true := by kernel_rfl
theorem stat203 : statAll (btAll 203) (Tryz.f203.body.getD .skip) = true := by kernel_rfl
theorem stat204 : statAll (btAll 204) (Tryz.f204.body.getD .skip) = true := by kernel_rfl
theorem stat205 : statAll (btAll 205) (Tryz.f205.body.getD .skip) = true := by kernel_rfl
theorem stat206 : statAll (btAll 206) (Tryz.f206.body.getD .skip) = true := by kernel_rfl
theorem stat207 : statAll (btAll 207) (Tryz.f207.body.getD .skip) = true := by kernel_rfl
theorem stat208 : statAll (btAll 208) (Tryz.f208.body.getD .skip) = true := by kernel_rfl
theorem stat209 : statAll (btAll 209) (Tryz.f209.body.getD .skip) = true := by kernel_rfl
theorem stat210 : statAll (btAll 210) (Tryz.f210.body.getD .skip) = true := by kernel_rfl
theorem stat211 : statAll (btAll 211) (Tryz.f211.body.getD .skip) = true := by kernel_rfl
theorem stat212 : statAll (btAll 212) (Tryz.f212.body.getD .skip) = true := by kernel_rfl
theorem stat213 : statAll (btAll 213) (Tryz.f213.body.getD .skip) = true := by kernel_rfl
theorem stat214 : statAll (btAll 214) (Tryz.f214.body.getD .skip) = true := by kernel_rfl
theorem stat215 : statAll (btAll 215) (Tryz.f215.body.getD .skip) = true := by kernel_rfl
theorem stat216 : statAll (btAll 216) (Tryz.f216.body.getD .skip) = true := by kernel_rfl
theorem stat217 : statAll (btAll 217) (Tryz.f217.body.getD .skip) = true := by kernel_rfl
theorem stat218 : statAll (btAll 218) (Tryz.f218.body.getD .skip) = true := by kernel_rfl
theorem stat219 : statAll (btAll 219) (Tryz.f219.body.getD .skip) = true := by kernel_rfl
theorem stat220 : statAll (btAll 220) (Tryz.f220.body.getD .skip) = true := by kernel_rfl
theorem stat221 : statAll (btAll 221) (Tryz.f221.body.getD .skip) = true := by kernel_rfl
theorem stat222 : statAll (btAll 222) (Tryz.f222.body.getD .skip) = true := by kernel_rfl
theorem stat223 : statAll (btAll 223) (Tryz.f223.body.getD .skip) = true := by kernel_rfl
theorem stat224 : statAll (btAll 224) (Tryz.f224.body.getD .skip) = true := by kernel_rfl
theorem stat225 : statAll (btAll 225) (Tryz.f225.body.getD .skip) = true := by kernel_rfl
theorem stat226 : statAll (btAll 226) (Tryz.f226.body.getD .skip) = true := by kernel_rfl
theorem stat227 : statAll (btAll 227) (Tryz.f227.body.getD .skip) = true := by kernel_rfl
theorem stat228 : statAll (btAll 228) (Tryz.f228.body.getD .skip) = true := by kernel_rfl
theorem stat229 : statAll (btAll 229) (Tryz.f229.body.getD .skip) = true := by kernel_rfl
theorem stat230 : statAll (btAll 230) (Tryz.f230.body.getD .skip) = true := by kernel_rfl
theorem stat231 : statAll (btAll 231) (Tryz.f231.body.getD .skip) = true := by kernel_rfl
theorem stat232 : statAll (btAll 232) (Tryz.f232.body.getD .skip) = true := by kernel_rfl
theorem stat233 : statAll (btAll 233) (Tryz.f233.body.getD .skip) = true := by kernel_rfl
theorem stat234 : statAll (btAll 234) (Tryz.f234.body.getD .skip) = true := by kernel_rfl
theorem stat235 : statAll (btAll 235) (Tryz.f235.body.getD .skip) = true := by kernel_rfl
theorem stat236 : statAll (btAll 236) (Tryz.f236.body.getD .skip) = true := by kernel_rfl
theorem stat237 : statAll (btAll 237) (Tryz.f237.body.getD .skip) = true := by kernel_rfl
theorem stat238 : statAll (btAll 238) (Tryz.f238.body.getD .skip) = true := by kernel_rfl
theorem stat239 : statAll (btAll 239) (Tryz.f239.body.getD .skip) = true := by kernel_rfl
theorem stat240 : statAll (btAll 240) (Tryz.f240.body.getD .skip) = true := by kernel_rfl
theorem stat241 : statAll (btAll 241) (Tryz.f241.body.getD .skip) = true := by kernel_rfl
theorem stat242 : statAll (btAll 242) (Tryz.f242.body.getD .skip) = true := by kernel_rfl
theorem stat243 : statAll (btAll 243) (Tryz.f243.body.getD .skip) = true := by kernel_rfl
theorem stat244 : statAll (btAll 244) (Tryz.f244.body.getD .skip) = true := by kernel_rfl
theorem stat245 : statAll (btAll 245) (Tryz.f245.body.getD .skip) = true := by kernel_rfl
theorem stat246 : statAll (btAll 246) (Tryz.f246.body.getD .skip) = true := by kernel_rfl
theorem stat247 : statAll (btAll 247) (Tryz.f247.body.getD .skip) = true := by kernel_rfl
theorem stat248 : statAll (btAll 248) (Tryz.f248.body.getD .skip) = true := by kernel_rfl
theorem has2 : HasBody Tryz.prog 2 := cP_ok.bodies 2 (cx_bodies Tryz.func2 (by kernel_rfl))
theorem has3 : HasBody Tryz.prog 3 := cP_ok.bodies 3 (cx_bodies Tryz.func3 (by kernel_rfl))
theorem has4 : HasBody Tryz.prog 4 := cP_ok.bodies 4 (cx_bodies Tryz.func4 (by kernel_rfl))
theorem has5 : HasBody Tryz.prog 5 := cP_ok.bodies 5 (cx_bodies Tryz.func5 (by kernel_rfl))
theorem has6 : HasBody Tryz.prog 6 := cP_ok.bodies 6 (cx_bodies Tryz.func6 (by kernel_rfl))
theorem has7 : HasBody Tryz.prog 7 := cP_ok.bodies 7 (cx_bodies Tryz.func7 (by kernel_rfl))
theorem has8 : HasBody Tryz.prog 8 := cP_ok.bodies 8 (cx_bodies Tryz.func8 (by kernel_rfl))
theorem has9 : HasBody Tryz.prog 9 := cP_ok.bodies 9 (cx_bodies Tryz.func9 (by kernel_rfl))
theorem has10 : HasBody Tryz.prog 10 := cP_ok.bodies 10 (cx_bodies Tryz.func10 (by kernel_rfl))
theorem has11 : HasBody Tryz.prog 11 := cP_ok.bodies 11 (cx_bodies Tryz.func11 (by kernel_rfl))
theorem has12 : HasBody Tryz.prog 12 := cP_ok.bodies 12 (cx_bodies Tryz.func12 (by kernel_rfl))
theorem has13 : HasBody Tryz.prog 13 := cP_ok.bodies 13 (cx_bodies Tryz.func13 (by kernel_rfl))
theorem has14 : HasBody Tryz.prog 14 := cP_ok.bodies 14 (cx_bodies Tryz.func14 (by kernel_rfl))
theorem has15 : HasBody Tryz.prog 15 := cP_ok.bodies 15 (cx_bodies Tryz.func15 (by kernel_rfl))
theorem has16 : HasBody Tryz.prog 16 := cP_ok.bodies 16 (cx_bodies Tryz.func16 (by kernel_rfl))
theorem has17 : HasBody Tryz.prog 17 := cP_ok.bodies 17 (cx_bodies Tryz.func17 (by kernel_rfl))
theorem has18 : HasBody Tryz.prog 18 := cP_ok.bodies 18 (cx_bodies Tryz.func18 (by kernel_rfl))
theorem has19 : HasBody Tryz.prog 19 := cP_ok.bodies 19 (cx_bodies Tryz.func19 (by kernel_rfl))
theorem has20 : HasBody Tryz.prog 20 := cP_ok.bodies 20 (cx_bodies Tryz.func20 (by kernel_rfl))
theorem has21 : HasBody Tryz.prog 21 := cP_ok.bodies 21 (cx_bodies Tryz.func21 (by kernel_rfl))
theorem has22 : HasBody Tryz.prog 22 := cP_ok.bodies 22 (cx_bodies Tryz.func22 (by kernel_rfl))
theorem has23 : HasBody Tryz.prog 23 := cP_ok.bodies 23 (cx_bodies Tryz.func23 (by kernel_rfl))
theorem has24 : HasBody Tryz.prog 24 := cP_ok.bodies 24 (cx_bodies Tryz.func24 (by kernel_rfl))
theorem has25 : HasBody Tryz.prog 25 := cP_ok.bodies 25 (cx_bodies Tryz.func25 (by kernel_rfl))
theorem has26 : HasBody Tryz.prog 26 := cP_ok.bodies 26 (cx_bodies Tryz.func26 (by kernel_rfl))
theorem has27 : HasBody Tryz.prog 27 := cP_ok.bodies 27 (cx_bodies Tryz.func27 (by kernel_rfl))
theorem has28 : HasBody Tryz.prog 28 := cP_ok.bodies 28 (cx_bodies Tryz.func28 (by kernel_rfl))
theorem has29 : HasBody Tryz.prog 29 := cP_ok.bodies 29 (cx_bodies Tryz.func29 (by kernel_rfl))
theorem has30 : HasBody Tryz.prog 30 := cP_ok.bodies 30 (cx_bodies Tryz.func30 (by kernel_rfl))
theorem has31 : HasBody Tryz.prog 31 := cP_ok.bodies 31 (cx_bodies Tryz.func31 (by kernel_rfl))
theorem has32 : HasBody Tryz.prog 32 := cP_ok.bodies 32 (cx_bodies Tryz.func32 (by kernel_rfl))
theorem has33 : HasBody Tryz.prog 33 := cP_ok.bodies 33 (cx_bodies Tryz.func33 (by kernel_rfl))
theorem has34 : HasBody Tryz.prog 34 := cP_ok.bodies 34 (cx_bodies Tryz.func34 (by kernel_rfl))
theorem has35 : HasBody Tryz.prog 35 := cP_ok.bodies 35 (cx_bodies Tryz.func35 (by kernel_rfl))
theorem has36 : HasBody Tryz.prog 36 := cP_ok.bodies 36 (cx_bodies Tryz.func36 (by kernel_rfl))
theorem has37 : HasBody Tryz.prog 37 := cP_ok.bodies 37 (cx_bodies Tryz.func37 (by kernel_rfl))
theorem has38 : HasBody Tryz.prog 38 := cP_ok.bodies 38 (cx_bodies Tryz.func38 (by kernel_rfl))
theorem has39 : HasBody Tryz.prog 39 := cP_ok.bodies 39 (cx_bodies Tryz.func39 (by kernel_rfl))
theorem has40 : HasBody Tryz.prog 40 := cP_ok.bodies 40 (cx_bodies Tryz.func40 (by kernel_rfl))
theorem has41 : HasBody Tryz.prog 41 := cP_ok.bodies 41 (cx_bodies Tryz.func41 (by kernel_rfl))
theorem has42 : HasBody Tryz.prog 42 := cP_ok.bodies 42 (cx_bodies Tryz.func42 (by kernel_rfl))
theorem has43 : HasBody Tryz.prog 43 := cP_ok.bodies 43 (cx_bodies Tryz.func43 (by kernel_rfl))
theorem has44 : HasBody Tryz.prog 44 := cP_ok.bodies 44 (cx_bodies Tryz.func44 (by kernel_rfl))
theorem has45 : HasBody Tryz.prog 45 := cP_ok.bodies 45 (cx_bodies Tryz.func45 (by kernel_rfl))
theorem has46 : HasBody Tryz.prog 46 := cP_ok.bodies 46 (cx_bodies Tryz.func46 (by kernel_rfl))
theorem has47 : HasBody Tryz.prog 47 := cP_ok.bodies 47 (cx_bodies Tryz.func47 (by kernel_rfl))
theorem has48 : HasBody Tryz.prog 48 := cP_ok.bodies 48 (cx_bodies Tryz.func48 (by kernel_rfl))
theorem has49 : HasBody Tryz.prog 49 := cP_ok.bodies 49 (cx_bodies Tryz.func49 (by kernel_rfl))
theorem has50 : HasBody Tryz.prog 50 := cP_ok.bodies 50 (cx_bodies Tryz.func50 (by kernel_rfl))
theorem has51 : HasBody Tryz.prog 51 := cP_ok.bodies 51 (cx_bodies Tryz.func51 (by kernel_rfl))
theorem has52 : HasBody Tryz.prog 52 := cP_ok.bodies 52 (cx_bodies Tryz.func52 (by kernel_rfl))
theorem has53 : HasBody Tryz.prog 53 := cP_ok.bodies 53 (cx_bodies Tryz.func53 (by kernel_rfl))
theorem has54 : HasBody Tryz.prog 54 := cP_ok.bodies 54 (cx_bodies Tryz.func54 (by kernel_rfl))
theorem has55 : HasBody Tryz.prog 55 := cP_ok.bodies 55 (cx_bodies Tryz.func55 (by kernel_rfl))
theorem has56 : HasBody Tryz.prog 56 := cP_ok.bodies 56 (cx_bodies Tryz.func56 (by kernel_rfl))
theorem has57 : HasBody Tryz.prog 57 := cP_ok.bodies 57 (cx_bodies Tryz.func57 (by kernel_rfl))
theorem has58 : HasBody Tryz.prog 58 := cP_ok.bodies 58 (cx_bodies Tryz.func58 (by kernel_rfl))
theorem has59 : HasBody Tryz.prog 59 := cP_ok.bodies 59 (cx_bodies Tryz.func59 (by kernel_rfl))
theorem has60 : HasBody Tryz.prog 60 := cP_ok.bodies 60 (cx_bodies Tryz.func60 (by kernel_rfl))
theorem has61 : HasBody Tryz.prog 61 := cP_ok.bodies 61 (cx_bodies Tryz.func61 (by kernel_rfl))
theorem has62 : HasBody Tryz.prog 62 := cP_ok.bodies 62 (cx_bodies Tryz.func62 (by kernel_rfl))
theorem has63 : HasBody Tryz.prog 63 := cP_ok.bodies 63 (cx_bodies Tryz.func63 (by kernel_rfl))
theorem has64 : HasBody Tryz.prog 64 := cP_ok.bodies 64 (cx_bodies Tryz.func64 (by kernel_rfl))
theorem has65 : HasBody Tryz.prog 65 := cP_ok.bodies 65 (cx_bodies Tryz.func65 (by kernel_rfl))
theorem has66 : HasBody Tryz.prog 66 := cP_ok.bodies 66 (cx_bodies Tryz.func66 (by kernel_rfl))
theorem has67 : HasBody Tryz.prog 67 := cP_ok.bodies 67 (cx_bodies Tryz.func67 (by kernel_rfl))
theorem has68 : HasBody Tryz.prog 68 := cP_ok.bodies 68 (cx_bodies Tryz.func68 (by kernel_rfl))
theorem has69 : HasBody Tryz.prog 69 := cP_ok.bodies 69 (cx_bodies Tryz.func69 (by kernel_rfl))
theorem has70 : HasBody Tryz.prog 70 := cP_ok.bodies 70 (cx_bodies Tryz.func70 (by kernel_rfl))
theorem has71 : HasBody Tryz.prog 71 := cP_ok.bodies 71 (cx_bodies Tryz.func71 (by kernel_rfl))
theorem has72 : HasBody Tryz.prog 72 := cP_ok.bodies 72 (cx_bodies Tryz.func72 (by kernel_rfl))
theorem has73 : HasBody Tryz.prog 73 := cP_ok.bodies 73 (cx_bodies Tryz.func73 (by kernel_rfl))
theorem has74 : HasBody Tryz.prog 74 := cP_ok.bodies 74 (cx_bodies Tryz.func74 (by kernel_rfl))
theorem has75 : HasBody Tryz.prog 75 := cP_ok.bodies 75 (cx_bodies Tryz.func75 (by kernel_rfl))
theorem has76 : HasBody Tryz.prog 76 := cP_ok.bodies 76 (cx_bodies Tryz.func76 (by kernel_rfl))
theorem has77 : HasBody Tryz.prog 77 := cP_ok.bodies 77 (cx_bodies Tryz.func77 (by kernel_rfl))
theorem has78 : HasBody Tryz.prog 78 := cP_ok.bodies 78 (cx_bodies Tryz.func78 (by kernel_rfl))
theorem has79 : HasBody Tryz.prog 79 := cP_ok.bodies 79 (cx_bodies Tryz.func79 (by kernel_rfl))
theorem has80 : HasBody Tryz.prog 80 := cP_ok.bodies 80 (cx_bodies Tryz.func80 (by kernel_rfl))
theorem has81 : HasBody Tryz.prog 81 := cP_ok.bodies 81 (cx_bodies Tryz.func81 (by kernel_rfl))
theorem has82 : HasBody Tryz.prog 82 := cP_ok.bodies 82 (cx_bodies Tryz.func82 (by kernel_rfl))
theorem has83 : HasBody Tryz.prog 83 := cP_ok.bodies 83 (cx_bodies Tryz.func83 (by kernel_rfl))
theorem has84 : HasBody Tryz.prog 84 := cP_ok.bodies 84 (cx_bodies Tryz.func84 (by kernel_rfl))
theorem has85 : HasBody Tryz.prog 85 := cP_ok.bodies 85 (cx_bodies Tryz.func85 (by kernel_rfl))
theorem has86 : HasBody Tryz.prog 86 := cP_ok.bodies 86 (cx_bodies Tryz.func86 (by kernel_rfl))
theorem has87 : HasBody Tryz.prog 87 := cP_ok.bodies 87 (cx_bodies Tryz.func87 (by kernel_rfl))
theorem has88 : HasBody Tryz.prog 88 := cP_ok.bodies 88 (cx_bodies Tryz.func88 (by kernel_rfl))
theorem has89 : HasBody Tryz.prog 89 := cP_ok.bodies 89 (cx_bodies Tryz.func89 (by kernel_rfl))
theorem has90 : HasBody Tryz.prog 90 := cP_ok.bodies 90 (cx_bodies Tryz.func90 (by kernel_rfl))
theorem has91 : HasBody Tryz.prog 91 := cP_ok.bodies 91 (cx_bodies Tryz.func91 (by kernel_rfl))
theorem has92 : HasBody Tryz.prog 92 := cP_ok.bodies 92 (cx_bodies Tryz.func92 (by kernel_rfl))
theorem has93 : HasBody Tryz.prog 93 := cP_ok.bodies 93 (cx_bodies Tryz.func93 (by kernel_rfl))
theorem has94 : HasBody Tryz.prog 94 := cP_ok.bodies 94 (cx_bodies Tryz.func94 (by kernel_rfl))
theorem has95 : HasBody Tryz.prog 95 := cP_ok.bodies 95 (cx_bodies Tryz.func95 (by kernel_rfl))
theorem has96 : HasBody Tryz.prog 96 := cP_ok.bodies 96 (cx_bodies Tryz.func96 (by kernel_rfl))
theorem has97 : HasBody Tryz.prog 97 := cP_ok.bodies 97 (cx_bodies Tryz.func97 (by kernel_rfl))
theorem has98 : HasBody Tryz.prog 98 := cP_ok.bodies 98 (cx_bodies Tryz.func98 (by kernel_rfl))
theorem has99 : HasBody Tryz.prog 99 := cP_ok.bodies 99 (cx_bodies Tryz.func99 (by kernel_rfl))
theorem has100 : HasBody Tryz.prog 100 := cP_ok.bodies 100 (cx_bodies Tryz.func100 (by kernel_rfl))
theorem has101 : HasBody Tryz.prog 101 := cP_ok.bodies 101 (cx_bodies Tryz.func101 (by kernel_rfl))
theorem has102 : HasBody Tryz.prog 102 := cP_ok.bodies 102 (cx_bodies Tryz.func102 (by kernel_rfl))
theorem has103 : HasBody Tryz.prog 103 := cP_ok.bodies 103 (cx_bodies Tryz.func103 (by kernel_rfl))
theorem has104 : HasBody Tryz.prog 104 := cP_ok.bodies 104 (cx_bodies Tryz.func104 (by kernel_rfl))
theorem has105 : HasBody Tryz.prog 105 := cP_ok.bodies 105 (cx_bodies Tryz.func105 (by kernel_rfl))
theorem has106 : HasBody Tryz.prog 106 := cP_ok.bodies 106 (cx_bodies Tryz.func106 (by kernel_rfl))
theorem has107 : HasBody Tryz.prog 107 := cP_ok.bodies 107 (cx_bodies Tryz.func107 (by kernel_rfl))
theorem has108 : HasBody Tryz.prog 108 := cP_ok.bodies 108 (cx_bodies Tryz.func108 (by kernel_rfl))
theorem has109 : HasBody Tryz.prog 109 := cP_ok.bodies 109 (cx_bodies Tryz.func109 (by kernel_rfl))
theorem has110 : HasBody Tryz.prog 110 := cP_ok.bodies 110 (cx_bodies Tryz.func110 (by kernel_rfl))
theorem has111 : HasBody Tryz.prog 111 := cP_ok.bodies 111 (cx_bodies Tryz.func111 (by kernel_rfl))
theorem has112 : HasBody Tryz.prog 112 := cP_ok.bodies 112 (cx_bodies Tryz.func112 (by kernel_rfl))
theorem has113 : HasBody Tryz.prog 113 := cP_ok.bodies 113 (cx_bodies Tryz.func113 (by kernel_rfl))
theorem has114 : HasBody Tryz.prog 114 := cP_ok.bodies 114 (cx_bodies Tryz.func114 (by kernel_rfl))
theorem has115 : HasBody Tryz.prog 115 := cP_ok.bodies 115 (cx_bodies Tryz.func115 (by kernel_rfl))
theorem has116 : HasBody Tryz.prog 116 := cP_ok.bodies 116 (cx_bodies Tryz.func116 (by kernel_rfl))
theorem has117 : HasBody Tryz.prog 117 := cP_ok.bodies 117 (cx_bodies Tryz.func117 (by kernel_rfl))
theorem has118 : HasBody Tryz.prog 118 := cP_ok.bodies 118 (cx_bodies Tryz.func118 (by kernel_rfl))
theorem has119 : HasBody Tryz.prog 119 := cP_ok.bodies 119 (cx_bodies Tryz.func119 (by kernel_rfl))
theorem has120 : HasBody Tryz.prog 120 := cP_ok.bodies 120 (cx_bodies Tryz.func120 (by kernel_rfl))
theorem has121 : HasBody Tryz.prog 121 := cP_ok.bodies 121 (cx_bodies Tryz.func121 (by kernel_rfl))
theorem has122 : HasBody Tryz.prog 122 := cP_ok.bodies 122 (cx_bodies Tryz.func122 (by kernel_rfl))
theorem has123 : HasBody Tryz.prog 123 := cP_ok.bodies 123 (cx_bodies Tryz.func123 (by kernel_rfl))
theorem has124 : HasBody Tryz.prog 124 := cP_ok.bodies 124 (cx_bodies Tryz.func124 (by kernel_rfl))
theorem has125 : HasBody Tryz.prog 125 := cP_ok.bodies 125 (cx_bodies Tryz.func125 (by kernel_rfl))
theorem has126 : HasBody Tryz.prog 126 := cP_ok.bodies 126 (cx_bodies Tryz.func126 (by kernel_rfl))
theorem has128 : HasBody Tryz.prog 128 := cP_ok.bodies 128 (cx_bodies Tryz.func128 (by kernel_rfl))
theorem has129 : HasBody Tryz.prog 129 := cP_ok.bodies 129 (cx_bodies Tryz.func129 (by kernel_rfl))
theorem has130 : HasBody Tryz.prog 130 := cP_ok.bodies 130 (cx_bodies Tryz.func130 (by kernel_rfl))
theorem has131 : HasBody Tryz.prog 131 := cP_ok.bodies 131 (cx_bodies Tryz.func131 (by kernel_rfl))
theorem has132 : HasBody Tryz.prog 132 := cP_ok.bodies 132 (cx_bodies Tryz.func132 (by kernel_rfl))
theorem has133 : HasBody Tryz.prog 133 := cP_ok.bodies 133 (cx_bodies Tryz.func133 (by kernel_rfl))
theorem has134 : HasBody Tryz.prog 134 := cP_ok.bodies 134 (cx_bodies Tryz.func134 (by kernel_rfl))
theorem has135 : HasBody Tryz.prog 135 := cP_ok.bodies 135 (cx_bodies Tryz.func135 (by kernel_rfl))
theorem has136 : HasBody Tryz.prog 136 := cP_ok.bodies 136 (cx_bodies Tryz.func136 (by kernel_rfl))
theorem has137 : HasBody Tryz.prog 137 := cP_ok.bodies 137 (cx_bodies Tryz.func137 (by kernel_rfl))
theorem has138 : HasBody Tryz.prog 138 := cP_ok.bodies 138 (cx_bodies Tryz.func138 (by kernel_rfl))
theorem has139 : HasBody Tryz.prog 139 := cP_ok.bodies 139 (cx_bodies Tryz.func139 (by kernel_rfl))
theorem has140 : HasBody Tryz.prog 140 := cP_ok.bodies 140 (cx_bodies Tryz.func140 (by kernel_rfl))
theorem has141 : HasBody Tryz.prog 141 := cP_ok.bodies 141 (cx_bodies Tryz.func141 (by kernel_rfl))
theorem has142 : HasBody Tryz.prog 142 := cP_ok.bodies 142 (cx_bodies Tryz.func142 (by kernel_rfl))
theorem has143 : HasBody Tryz.prog 143 := cP_ok.bodies 143 (cx_bodies Tryz.func143 (by kernel_rfl))
theorem has144 : HasBody Tryz.prog 144 := cP_ok.bodies 144 (cx_bodies Tryz.func144 (by kernel_rfl))
theorem has145 : HasBody Tryz.prog 145 := cP_ok.bodies 145 (cx_bodies Tryz.func145 (by kernel_rfl))
theorem has146 : HasBody Tryz.prog 146 := cP_ok.bodies 146 (cx_bodies Tryz.func146 (by kernel_rfl))
theorem has147 : HasBody Tryz.prog 147 := cP_ok.bodies 147 (cx_bodies Tryz.func147 (by kernel_rfl))
theorem has148 : HasBody Tryz.prog 148 := cP_ok.bodies 148 (cx_bodies Tryz.func148 (by kernel_rfl))
theorem has149 : HasBody Tryz.prog 149 := cP_ok.bodies 149 (cx_bodies Tryz.func149 (by kernel_rfl))
theorem has150 : HasBody Tryz.prog 150 := cP_ok.bodies 150 (cx_bodies Tryz.func150 (by kernel_rfl))
theorem has151 : HasBody Tryz.prog 151 := cP_ok.bodies 151 (cx_bodies Tryz.func151 (by kernel_rfl))
theorem has152 : HasBody Tryz.prog 152 := cP_ok.bodies 152 (cx_bodies Tryz.func152 (by kernel_rfl))
theorem has153 : HasBody Tryz.prog 153 := cP_ok.bodies 153 (cx_bodies Tryz.func153 (by kernel_rfl))
theorem has154 : HasBody Tryz.prog 154 := cP_ok.bodies 154 (cx_bodies Tryz.func154 (by kernel_rfl))
theorem has155 : HasBody Tryz.prog 155 := cP_ok.bodies 155 (cx_bodies Tryz.func155 (by kernel_rfl))
theorem has156 : HasBody Tryz.prog 156 := cP_ok.bodies 156 (cx_bodies Tryz.func156 (by kernel_rfl))
theorem has157 : HasBody Tryz.prog 157 := cP_ok.bodies 157 (cx_bodies Tryz.func157 (by kernel_rfl))
theorem has158 : HasBody Tryz.prog 158 := cP_ok.bodies 158 (cx_bodies Tryz.func158 (by kernel_rfl))
theorem has159 : HasBody Tryz.prog 159 := cP_ok.bodies 159 (cx_bodies Tryz.func159 (by kernel_rfl))
theorem has160 : HasBody Tryz.prog 160 := cP_ok.bodies 160 (cx_bodies Tryz.func160 (by kernel_rfl))
theorem has161 : HasBody Tryz.prog 161 := cP_ok.bodies 161 (cx_bodies Tryz.func161 (by kernel_rfl))
theorem has162 : HasBody Tryz.prog 162 := cP_ok.bodies 162 (cx_bodies Tryz.func162 (by kernel_rfl))
theorem has163 : HasBody Tryz.prog 163 := cP_ok.bodies 163 (cx_bodies Tryz.func163 (by kernel_rfl))
theorem has164 : HasBody Tryz.prog 164 := cP_ok.bodies 164 (cx_bodies Tryz.func164 (by kernel_rfl))
theorem has165 : HasBody Tryz.prog 165 := cP_ok.bodies 165 (cx_bodies Tryz.func165 (by kernel_rfl))
theorem has166 : HasBody Tryz.prog 166 := cP_ok.bodies 166 (cx_bodies Tryz.func166 (by kernel_rfl))
theorem has167 : HasBody Tryz.prog 167 := cP_ok.bodies 167 (cx_bodies Tryz.func167 (by kernel_rfl))
theorem has168 : HasBody Tryz.prog 168 := cP_ok.bodies 168 (cx_bodies Tryz.func168 (by kernel_rfl))
theorem has169 : HasBody Tryz.prog 169 := cP_ok.bodies 169 (cx_bodies Tryz.func169 (by kernel_rfl))
theorem has170 : HasBody Tryz.prog 170 := cP_ok.bodies 170 (cx_bodies Tryz.func170 (by kernel_rfl))
theorem has171 : HasBody Tryz.prog 171 := cP_ok.bodies 171 (cx_bodies Tryz.func171 (by kernel_rfl))
theorem has172 : HasBody Tryz.prog 172 := cP_ok.bodies 172 (cx_bodies Tryz.func172 (by kernel_rfl))
theorem has173 : HasBody Tryz.prog 173 := cP_ok.bodies 173 (cx_bodies Tryz.func173 (by kernel_rfl))
theorem has174 : HasBody Tryz.prog 174 := cP_ok.bodies 174 (cx_bodies Tryz.func174 (by kernel_rfl))
theorem has175 : HasBody Tryz.prog 175 := cP_ok.bodies 175 (cx_bodies Tryz.func175 (by kernel_rfl))
theorem has176 : HasBody Tryz.prog 176 := cP_ok.bodies 176 (cx_bodies Tryz.func176 (by kernel_rfl))
theorem has177 : HasBody Tryz.prog 177 := cP_ok.bodies 177 (cx_bodies Tryz.func177 (by kernel_rfl))
theorem has178 : HasBody Tryz.prog 178 := cP_ok.bodies 178 (cx_bodies Tryz.func178 (by kernel_rfl))
theorem has179 : HasBody Tryz.prog 179 := cP_ok.bodies 179 (cx_bodies Tryz.func179 (by kernel_rfl))
theorem has180 : HasBody Tryz.prog 180 := cP_ok.bodies 180 (cx_bodies Tryz.func180 (by kernel_rfl))
theorem has181 : HasBody Tryz.prog 181 := cP_ok.bodies 181 (cx_bodies Tryz.func181 (by kernel_rfl))
theorem has182 : HasBody Tryz.prog 182 := cP_ok.bodies 182 (cx_bodies Tryz.func182 (by kernel_rfl))
theorem has183 : HasBody Tryz.prog 183 := cP_ok.bodies 183 (cx_bodies Tryz.func183 (by kernel_rfl))
theorem has184 : HasBody Tryz.prog 184 := cP_ok.bodies 184 (cx_bodies Tryz.func184 (by kernel_rfl))
theorem has185 : HasBody Tryz.prog 185 := cP_ok.bodies 185 (cx_bodies Tryz.func185 (by kernel_rfl))
theorem has186 : HasBody Tryz.prog 186 := cP_ok.bodies 186 (cx_bodies Tryz.func186 (by kernel_rfl))
theorem has187 : HasBody Tryz.prog 187 := cP_ok.bodies 187 (cx_bodies Tryz.func187 (by kernel_rfl))
theorem has188 : HasBody Tryz.prog 188 := cP_ok.bodies 188 (cx_bodies Tryz.func188 (by kernel_rfl))
theorem has191 : HasBody Tryz.prog 191 := cP_ok.bodies 191 (cx_bodies Tryz.func191 (by kernel_rfl))
theorem has192 : HasBody Tryz.prog 192 := cP_ok.bodies 192 (cx_bodies Tryz.func192 (by kernel_rfl))
theorem has193 : HasBody Tryz.prog 193 := cP_ok.bodies 193 (cx_bodies Tryz.func193 (by kernel_rfl))
theorem has194 : HasBody Tryz.prog 194 := cP_ok.bodies 194 (cx_bodies Tryz.func194 (by kernel_rfl))
theorem has195 : HasBody Tryz.prog 195 := cP_ok.bodies 195 (cx_bodies Tryz.func195 (by kernel_rfl))
theorem has196 : HasBody Tryz.prog 196 := cP_ok.bodies 196 (cx_bodies Tryz.func196 (by kernel_rfl))
theorem has197 : HasBody Tryz.prog 197 := cP_ok.bodies 197 (cx_bodies Tryz.func197 (by kernel_rfl))
theorem has198 : HasBody Tryz.prog 198 := cP_ok.bodies 198 (cx_bodies Tryz.func198 (by kernel_rfl))
theorem has199 : HasBody Tryz.prog 199 := cP_ok.bodies 199 (cx_bodies Tryz.func199 (by kernel_rfl))
theorem has200 : HasBody Tryz.prog 200 := cP_ok.bodies 200 (cx_bodies Tryz.func200 (by kernel_rfl))
theorem has201 : HasBody Tryz.prog 201 := cP_ok.bodies 201 (cx_bodies Tryz.func201 (by kernel_rfl))
theorem has202 : HasBody Tryz.prog 202 := cP_ok.bodies 202 (cx_bodies Tryz.func202 (by kernel_rfl))
theorem has203 : HasBody Tryz.prog 203 := cP_ok.bodies 203 (cx_bodies Tryz.func203 (by kernel_rfl))
theorem has204 : HasBody Tryz.prog 204 := cP_ok.bodies 204 (cx_bodies Tryz.func204 (by kernel_rfl))
theorem has205 : HasBody Tryz.prog 205 := cP_ok.bodies 205 (cx_bodies Tryz.func205 (by kernel_rfl))
theorem has206 : HasBody Tryz.prog 206 := cP_ok.bodies 206 (cx_bodies Tryz.func206 (by kernel_rfl))
theorem has207 : HasBody Tryz.prog 207 := cP_ok.bodies 207 (cx_bodies Tryz.func207 (by kernel_rfl))
theorem has208 : HasBody Tryz.prog 208 := cP_ok.bodies 208 (cx_bodies Tryz.func208 (by kernel_rfl))
theorem has209 : HasBody Tryz.prog 209 := cP_ok.bodies 209 (cx_bodies Tryz.func209 (by kernel_rfl))
theorem has210 : HasBody Tryz.prog 210 := cP_ok.bodies 210 (cx_bodies Tryz.func210 (by kernel_rfl))
theorem has211 : HasBody Tryz.prog 211 := cP_ok.bodies 211 (cx_bodies Tryz.func211 (by kernel_rfl))
theorem has212 : HasBody Tryz.prog 212 := cP_ok.bodies 212 (cx_bodies Tryz.func212 (by kernel_rfl))
theorem has213 : HasBody Tryz.prog 213 := cP_ok.bodies 213 (cx_bodies Tryz.func213 (by kernel_rfl))
theorem has214 : HasBody Tryz.prog 214 := cP_ok.bodies 214 (cx_bodies Tryz.func214 (by kernel_rfl))
theorem has215 : HasBody Tryz.prog 215 := cP_ok.bodies 215 (cx_bodies Tryz.func215 (by kernel_rfl))
theorem has216 : HasBody Tryz.prog 216 := cP_ok.bodies 216 (cx_bodies Tryz.func216 (by kernel_rfl))
theorem has217 : HasBody Tryz.prog 217 := cP_ok.bodies 217 (cx_bodies Tryz.func217 (by kernel_rfl))
theorem has218 : HasBody Tryz.prog 218 := cP_ok.bodies 218 (cx_bodies Tryz.func218 (by kernel_rfl))
theorem has219 : HasBody Tryz.prog 219 := cP_ok.bodies 219 (cx_bodies Tryz.func219 (by kernel_rfl))
theorem has220 : HasBody Tryz.prog 220 := cP_ok.bodies 220 (cx_bodies Tryz.func220 (by kernel_rfl))
theorem has221 : HasBody Tryz.prog 221 := cP_ok.bodies 221 (cx_bodies Tryz.func221 (by kernel_rfl))
theorem has222 : HasBody Tryz.prog 222 := cP_ok.bodies 222 (cx_bodies Tryz.func222 (by kernel_rfl))
theorem has223 : HasBody Tryz.prog 223 := cP_ok.bodies 223 (cx_bodies Tryz.func223 (by kernel_rfl))
theorem has224 : HasBody Tryz.prog 224 := cP_ok.bodies 224 (cx_bodies Tryz.func224 (by kernel_rfl))
theorem has225 : HasBody Tryz.prog 225 := cP_ok.bodies 225 (cx_bodies Tryz.func225 (by kernel_rfl))
theorem has226 : HasBody Tryz.prog 226 := cP_ok.bodies 226 (cx_bodies Tryz.func226 (by kernel_rfl))
theorem has227 : HasBody Tryz.prog 227 := cP_ok.bodies 227 (cx_bodies Tryz.func227 (by kernel_rfl))
theorem has228 : HasBody Tryz.prog 228 := cP_ok.bodies 228 (cx_bodies Tryz.func228 (by kernel_rfl))
theorem has229 : HasBody Tryz.prog 229 := cP_ok.bodies 229 (cx_bodies Tryz.func229 (by kernel_rfl))
theorem has230 : HasBody Tryz.prog 230 := cP_ok.bodies 230 (cx_bodies Tryz.func230 (by kernel_rfl))
theorem has231 : HasBody Tryz.prog 231 := cP_ok.bodies 231 (cx_bodies Tryz.func231 (by kernel_rfl))
theorem has232 : HasBody Tryz.prog 232 := cP_ok.bodies 232 (cx_bodies Tryz.func232 (by kernel_rfl))
theorem has233 : HasBody Tryz.prog 233 := cP_ok.bodies 233 (cx_bodies Tryz.func233 (by kernel_rfl))
theorem has234 : HasBody Tryz.prog 234 := cP_ok.bodies 234 (cx_bodies Tryz.func234 (by kernel_rfl))
theorem has235 : HasBody Tryz.prog 235 := cP_ok.bodies 235 (cx_bodies Tryz.func235 (by kernel_rfl))
theorem has236 : HasBody Tryz.prog 236 := cP_ok.bodies 236 (cx_bodies Tryz.func236 (by kernel_rfl))
theorem has237 : HasBody Tryz.prog 237 := cP_ok.bodies 237 (cx_bodies Tryz.func237 (by kernel_rfl))
theorem has238 : HasBody Tryz.prog 238 := cP_ok.bodies 238 (cx_bodies Tryz.func238 (by kernel_rfl))
theorem has239 : HasBody Tryz.prog 239 := cP_ok.bodies 239 (cx_bodies Tryz.func239 (by kernel_rfl))
theorem has240 : HasBody Tryz.prog 240 := cP_ok.bodies 240 (cx_bodies Tryz.func240 (by kernel_rfl))
theorem has241 : HasBody Tryz.prog 241 := cP_ok.bodies 241 (cx_bodies Tryz.func241 (by kernel_rfl))
theorem has242 : HasBody Tryz.prog 242 := cP_ok.bodies 242 (cx_bodies Tryz.func242 (by kernel_rfl))
theorem has243 : HasBody Tryz.prog 243 := cP_ok.bodies 243 (cx_bodies Tryz.func243 (by kernel_rfl))
theorem has244 : HasBody Tryz.prog 244 := cP_ok.bodies 244 (cx_bodies Tryz.func244 (by kernel_rfl))
theorem has245 : HasBody Tryz.prog 245 := cP_ok.bodies 245 (cx_bodies Tryz.func245 (by kernel_rfl))
theorem has246 : HasBody Tryz.prog 246 := cP_ok.bodies 246 (cx_bodies Tryz.func246 (by kernel_rfl))
theorem has247 : HasBody Tryz.prog 247 := cP_ok.bodies 247 (cx_bodies Tryz.func247 (by kernel_rfl))
theorem has248 : HasBody Tryz.prog 248 := cP_ok.bodies 248 (cx_bodies Tryz.func248 (by kernel_rfl))
noncomputable def row2 : FnRow Tryz.prog btAll := ⟨2, Tryz.f2, Tryz.f2.body.getD .skip, Tryz.func2, by kernel_rfl, stat2, has2⟩
noncomputable def row3 : FnRow Tryz.prog btAll := ⟨3, Tryz.f3, Tryz.f3.body.getD .skip, Tryz.func3, by kernel_rfl, stat3, has3⟩
noncomputable def row4 : FnRow Tryz.prog btAll := ⟨4, Tryz.f4, Tryz.f4.body.getD .skip, Tryz.func4, by kernel_rfl, stat4, has4⟩
noncomputable def row5 : FnRow Tryz.prog btAll := ⟨5, Tryz.f5, Tryz.f5.body.getD .skip, Tryz.func5, by kernel_rfl, stat5, has5⟩
noncomputable def row6 : FnRow Tryz.prog btAll := ⟨6, Tryz.f6, Tryz.f6.body.getD .skip, Tryz.func6, by kernel_rfl, stat6, has6⟩
noncomputable def row7 : FnRow Tryz.prog btAll := ⟨7, Tryz.f7, Tryz.f7.body.getD .skip, Tryz.func7, by kernel_rfl, stat7, has7⟩
noncomputable def row8 : FnRow Tryz.prog btAll := ⟨8, Tryz.f8, Tryz.f8.body.getD .skip, Tryz.func8, by kernel_rfl, stat8, has8⟩
noncomputable def row9 : FnRow Tryz.prog btAll := ⟨9, Tryz.f9, Tryz.f9.body.getD .skip, Tryz.func9, by kernel_rfl, stat9, has9⟩
noncomputable def row10 : FnRow Tryz.prog btAll := ⟨10, Tryz.f10, Tryz.f10.body.getD .skip, Tryz.func10, by kernel_rfl, stat10, has10⟩
noncomputable def row11 : FnRow Tryz.prog btAll := ⟨11, Tryz.f11, Tryz.f11.body.getD .skip, Tryz.func11, by kernel_rfl, stat11, has11⟩
noncomputable def row12 : FnRow Tryz.prog btAll := ⟨12, Tryz.f12, Tryz.f12.body.getD .skip, Tryz.func12, by kernel_rfl, stat12, has12⟩
noncomputable def row13 : FnRow Tryz.prog btAll := ⟨13, Tryz.f13, Tryz.f13.body.getD .skip, Tryz.func13, by kernel_rfl, stat13, has13⟩
noncomputable def row14 : FnRow Tryz.prog btAll := ⟨14, Tryz.f14, Tryz.f14.body.getD .skip, Tryz.func14, by kernel_rfl, stat14, has14⟩
noncomputable def row15 : FnRow Tryz.prog btAll := ⟨15, Tryz.f15, Tryz.f15.body.getD .skip, Tryz.func15, by kernel_rfl, stat15, has15⟩
noncomputable def row16 : FnRow Tryz.prog btAll := ⟨16, Tryz.f16, Tryz.f16.body.getD .skip, Tryz.func16, by kernel_rfl, stat16, has16⟩
noncomputable def row17 : FnRow Tryz.prog btAll := ⟨17, Tryz.f17, Tryz.f17.body.getD .skip, Tryz.func17, by kernel_rfl, stat17, has17⟩
noncomputable def row18 : FnRow Tryz.prog btAll := ⟨18, Tryz.f18, Tryz.f18.body.getD .skip, Tryz.func18, by kernel_rfl, stat18, has18⟩
noncomputable def row19 : FnRow Tryz.prog btAll := ⟨19, Tryz.f19, Tryz.f19.body.getD .skip, Tryz.func19, by kernel_rfl, stat19, has19⟩
noncomputable def row20 : FnRow Tryz.prog btAll := ⟨20, Tryz.f20, Tryz.f20.body.getD .skip, Tryz.func20, by kernel_rfl, stat20, has20⟩
noncomputable def row21 : FnRow Tryz.prog btAll := ⟨21, Tryz.f21, Tryz.f21.body.getD .skip, Tryz.func21, by kernel_rfl, stat21, has21⟩
noncomputable def row22 : FnRow Tryz.prog btAll := ⟨22, Tryz.f22, Tryz.f22.body.getD .skip, Tryz.func22, by kernel_rfl, stat22, has22⟩
noncomputable def row23 : FnRow Tryz.prog btAll := ⟨23, Tryz.f23, Tryz.f23.body.getD .skip, Tryz.func23, by kernel_rfl, stat23, has23⟩
noncomputable def row24 : FnRow Tryz.prog btAll := ⟨24, Tryz.f24, Tryz.f24.body.getD .skip, Tryz.func24, by kernel_rfl, stat24, has24⟩
noncomputable def row25 : FnRow Tryz.prog btAll := ⟨25, Tryz.f25, Tryz.f25.body.getD .skip, Tryz.func25, by kernel_rfl, stat25, has25⟩
noncomputable def row26 : FnRow Tryz.prog btAll := ⟨26, Tryz.f26, Tryz.f26.body.getD .skip, Tryz.func26, by kernel_rfl, stat26, has26⟩
noncomputable def row27 : FnRow Tryz.prog btAll := ⟨27, Tryz.f27, Tryz.f27.body.getD .skip, Tryz.func27, by kernel_rfl, stat27, has27⟩
noncomputable def row28 : FnRow Tryz.prog btAll := ⟨28, Tryz.f28, Tryz.f28.body.getD .skip, Tryz.func28, by kernel_rfl, stat28, has28⟩
noncomputable def row29 : FnRow Tryz.prog btAll := ⟨29, Tryz.f29, Tryz.f29.body.getD .skip, Tryz.func29, by kernel_rfl, stat29, has29⟩
noncomputable def row30 : FnRow Tryz.prog btAll := ⟨30, Tryz.f30, Tryz.f30.body.getD .skip, Tryz.func30, by kernel_rfl, stat30, has30⟩
noncomputable def row31 : FnRow Tryz.prog btAll := ⟨31, Tryz.f31, Tryz.f31.body.getD .skip, Tryz.func31, by kernel_rfl, stat31, has31⟩
noncomputable def row32 : FnRow Tryz.prog btAll := ⟨32, Tryz.f32, Tryz.f32.body.getD .skip, Tryz.func32, by kernel_rfl, stat32, has32⟩
noncomputable def row33 : FnRow Tryz.prog btAll := ⟨33, Tryz.f33, Tryz.f33.body.getD .skip, Tryz.func33, by kernel_rfl, stat33, has33⟩
noncomputable def row34 : FnRow Tryz.prog btAll := ⟨34, Tryz.f34, Tryz.f34.body.getD .skip, Tryz.func34, by kernel_rfl, stat34, has34⟩
noncomputable def row35 : FnRow Tryz.prog btAll := ⟨35, Tryz.f35, Tryz.f35.body.getD .skip, Tryz.func35, by kernel_rfl, stat35, has35⟩
noncomputable def row36 : FnRow Tryz.prog btAll := ⟨36, Tryz.f36, Tryz.f36.body.getD .skip, Tryz.func36, by kernel_rfl, stat36, has36⟩
noncomputable def row37 : FnRow Tryz.prog btAll := ⟨37, Tryz.f37, Tryz.f37.body.getD .skip, Tryz.func37, by kernel_rfl, stat37, has37⟩
noncomputable def row38 : FnRow Tryz.prog btAll := ⟨38, Tryz.f38, Tryz.f38.body.getD .skip, Tryz.func38, by kernel_rfl, stat38, has38⟩
noncomputable def row39 : FnRow Tryz.prog btAll := ⟨39, Tryz.f39, Tryz.f39.body.getD .skip, Tryz.func39, by kernel_rfl, stat39, has39⟩
noncomputable def row40 : FnRow Tryz.prog btAll := ⟨40, Tryz.f40, Tryz.f40.body.getD .skip, Tryz.func40, by kernel_rfl, stat40, has40⟩
noncomputable def row41 : FnRow Tryz.prog btAll := ⟨41, Tryz.f41, Tryz.f41.body.getD .skip, Tryz.func41, by kernel_rfl, stat41, has41⟩
noncomputable def row42 : FnRow Tryz.prog btAll := ⟨42, Tryz.f42, Tryz.f42.body.getD .skip, Tryz.func42, by kernel_rfl, stat42, has42⟩
noncomputable def row43 : FnRow Tryz.prog btAll := ⟨43, Tryz.f43, Tryz.f43.body.getD .skip, Tryz.func43, by kernel_rfl, stat43, has43⟩
noncomputable def row44 : FnRow Tryz.prog btAll := ⟨44, Tryz.f44, Tryz.f44.body.getD .skip, Tryz.func44, by kernel_rfl, stat44, has44⟩
noncomputable def row45 : FnRow Tryz.prog btAll := ⟨45, Tryz.f45, Tryz.f45.body.getD .skip, Tryz.func45, by kernel_rfl, stat45, has45⟩
noncomputable def row46 : FnRow Tryz.prog btAll := ⟨46, Tryz.f46, Tryz.f46.body.getD .skip, Tryz.func46, by kernel_rfl, stat46, has46⟩
noncomputable def row47 : FnRow Tryz.prog btAll := ⟨47, Tryz.f47, Tryz.f47.body.getD .skip, Tryz.func47, by kernel_rfl, stat47, has47⟩
noncomputable def row48 : FnRow Tryz.prog btAll := ⟨48, Tryz.f48, Tryz.f48.body.getD .skip, Tryz.func48, by kernel_rfl, stat48, has48⟩
noncomputable def row49 : FnRow Tryz.prog btAll := ⟨49, Tryz.f49, Tryz.f49.body.getD .skip, Tryz.func49, by kernel_rfl, stat49, has49⟩
noncomputable def row50 : FnRow Tryz.prog btAll := ⟨50, Tryz.f50, Tryz.f50.body.getD .skip, Tryz.func50, by kernel_rfl, stat50, has50⟩
noncomputable def row51 : FnRow Tryz.prog btAll := ⟨51, Tryz.f51, Tryz.f51.body.getD .skip, Tryz.func51, by kernel_rfl, stat51, has51⟩
noncomputable def row52 : FnRow Tryz.prog btAll := ⟨52, Tryz.f52, Tryz.f52.body.getD .skip, Tryz.func52, by kernel_rfl, stat52, has52⟩
noncomputable def row53 : FnRow Tryz.prog btAll := ⟨53, Tryz.f53, Tryz.f53.body.getD .skip, Tryz.func53, by kernel_rfl, stat53, has53⟩
noncomputable def row54 : FnRow Tryz.prog btAll := ⟨54, Tryz.f54, Tryz.f54.body.getD .skip, Tryz.func54, by kernel_rfl, stat54, has54⟩
noncomputable def row55 : FnRow Tryz.prog btAll := ⟨55, Tryz.f55, Tryz.f55.body.getD .skip, Tryz.func55, by kernel_rfl, stat55, has55⟩
noncomputable def row56 : FnRow Tryz.prog btAll := ⟨56, Tryz.f56, Tryz.f56.body.getD .skip, Tryz.func56, by kernel_rfl, stat56, has56⟩
noncomputable def row57 : FnRow Tryz.prog btAll := ⟨57, Tryz.f57, Tryz.f57.body.getD .skip, Tryz.func57, by kernel_rfl, stat57, has57⟩
noncomputable def row58 : FnRow Tryz.prog btAll := ⟨58, Tryz.f58, Tryz.f58.body.getD .skip, Tryz.func58, by kernel_rfl, stat58, has58⟩
noncomputable def row59 : FnRow Tryz.prog btAll := ⟨59, Tryz.f59, Tryz.f59.body.getD .skip, Tryz.func59, by kernel_rfl, stat59, has59⟩
noncomputable def row60 : FnRow Tryz.prog btAll := ⟨60, Tryz.f60, Tryz.f60.body.getD .skip, Tryz.func60, by kernel_rfl, stat60, has60⟩
noncomputable def row61 : FnRow Tryz.prog btAll := ⟨61, Tryz.f61, Tryz.f61.body.getD .skip, Tryz.func61, by kernel_rfl, stat61, has61⟩
noncomputable def row62 : FnRow Tryz.prog btAll := ⟨62, Tryz.f62, Tryz.f62.body.getD .skip, Tryz.func62, by kernel_rfl, stat62, has62⟩
noncomputable def row63 : FnRow Tryz.prog btAll := ⟨63, Tryz.f63, Tryz.f63.body.getD .skip, Tryz.func63, by kernel_rfl, stat63, has63⟩
noncomputable def row64 : FnRow Tryz.prog btAll := ⟨64, Tryz.f64, Tryz.f64.body.getD .skip, Tryz.func64, by kernel_rfl, stat64, has64⟩
noncomputable def row65 : FnRow Tryz.prog btAll := ⟨65, Tryz.f65, Tryz.f65.body.getD .skip, Tryz.func65, by kernel_rfl, stat65, has65⟩
noncomputable def row66 : FnRow Tryz.prog btAll := ⟨66, Tryz.f66, Tryz.f66.body.getD .skip, Tryz.func66, by kernel_rfl, stat66, has66⟩
noncomputable def row67 : FnRow Tryz.prog btAll := ⟨67, Tryz.f67, Tryz.f67.body.getD .skip, Tryz.func67, by kernel_rfl, stat67, has67⟩
noncomputable def row68 : FnRow Tryz.prog btAll := ⟨68, Tryz.f68, Tryz.f68.body.getD .skip, Tryz.func68, by kernel_rfl, stat68, has68⟩
noncomputable def row69 : FnRow Tryz.prog btAll := ⟨69, Tryz.f69, Tryz.f69.body.getD .skip, Tryz.func69, by kernel_rfl, stat69, has69⟩
noncomputable def row70 : FnRow Tryz.prog btAll := ⟨70, Tryz.f70, Tryz.f70.body.getD .skip, Tryz.func70, by kernel_rfl, stat70, has70⟩
noncomputable def row71 : FnRow Tryz.prog btAll := ⟨71, Tryz.f71, Tryz.f71.body.getD .skip, Tryz.func71, by kernel_rfl, stat71, has71⟩
noncomputable def row72 : FnRow Tryz.prog btAll := ⟨72, Tryz.f72, Tryz.f72.body.getD .skip, Tryz.func72, by kernel_rfl, stat72, has72⟩
noncomputable def row73 : FnRow Tryz.prog btAll := ⟨73, Tryz.f73, Tryz.f73.body.getD .skip, Tryz.func73, by kernel_rfl, stat73, has73⟩
noncomputable def row74 : FnRow Tryz.prog btAll := ⟨74, Tryz.f74, Tryz.f74.body.getD .skip, Tryz.func74, by kernel_rfl, stat74, has74⟩
noncomputable def row75 : FnRow Tryz.prog btAll := ⟨75, Tryz.f75, Tryz.f75.body.getD .skip, Tryz.func75, by kernel_rfl, stat75, has75⟩
noncomputable def row76 : FnRow Tryz.prog btAll := ⟨76, Tryz.f76, Tryz.f76.body.getD .skip, Tryz.func76, by kernel_rfl, stat76, has76⟩
noncomputable def row77 : FnRow Tryz.prog btAll := ⟨77, Tryz.f77, Tryz.f77.body.getD .skip, Tryz.func77, by kernel_rfl, stat77, has77⟩
noncomputable def row78 : FnRow Tryz.prog btAll := ⟨78, Tryz.f78, Tryz.f78.body.getD .skip, Tryz.func78, by kernel_rfl, stat78, has78⟩
noncomputable def row79 : FnRow Tryz.prog btAll := ⟨79, Tryz.f79, Tryz.f79.body.getD .skip, Tryz.func79, by kernel_rfl, stat79, has79⟩
noncomputable def row80 : FnRow Tryz.prog btAll := ⟨80, Tryz.f80, Tryz.f80.body.getD .skip, Tryz.func80, by kernel_rfl, stat80, has80⟩
noncomputable def row81 : FnRow Tryz.prog btAll := ⟨81, Tryz.f81, Tryz.f81.body.getD .skip, Tryz.func81, by kernel_rfl, stat81, has81⟩
noncomputable def row82 : FnRow Tryz.prog btAll := ⟨82, Tryz.f82, Tryz.f82.body.getD .skip, Tryz.func82, by kernel_rfl, stat82, has82⟩
noncomputable def row83 : FnRow Tryz.prog btAll := ⟨83, Tryz.f83, Tryz.f83.body.getD .skip, Tryz.func83, by kernel_rfl, stat83, has83⟩
noncomputable def row84 : FnRow Tryz.prog btAll := ⟨84, Tryz.f84, Tryz.f84.body.getD .skip, Tryz.func84, by kernel_rfl, stat84, has84⟩
noncomputable def row85 : FnRow Tryz.prog btAll := ⟨85, Tryz.f85, Tryz.f85.body.getD .skip, Tryz.func85, by kernel_rfl, stat85, has85⟩
noncomputable def row86 : FnRow Tryz.prog btAll := ⟨86, Tryz.f86, Tryz.f86.body.getD .skip, Tryz.func86, by kernel_rfl, stat86, has86⟩
noncomputable def row87 : FnRow Tryz.prog btAll := ⟨87, Tryz.f87, Tryz.f87.body.getD .skip, Tryz.func87, by kernel_rfl, stat87, has87⟩
noncomputable def row88 : FnRow Tryz.prog btAll := ⟨88, Tryz.f88, Tryz.f88.body.getD .skip, Tryz.func88, by kernel_rfl, stat88, has88⟩
noncomputable def row89 : FnRow Tryz.prog btAll := ⟨89, Tryz.f89, Tryz.f89.body.getD .skip, Tryz.func89, by kernel_rfl, stat89, has89⟩
noncomputable def row90 : FnRow Tryz.prog btAll := ⟨90, Tryz.f90, Tryz.f90.body.getD .skip, Tryz.func90, by kernel_rfl, stat90, has90⟩
noncomputable def row91 : FnRow Tryz.prog btAll := ⟨91, Tryz.f91, Tryz.f91.body.getD .skip, Tryz.func91, by kernel_rfl, stat91, has91⟩
noncomputable def row92 : FnRow Tryz.prog btAll := ⟨92, Tryz.f92, Tryz.f92.body.getD .skip, Tryz.func92, by kernel_rfl, stat92, has92⟩
noncomputable def row93 : FnRow Tryz.prog btAll := ⟨93, Tryz.f93, Tryz.f93.body.getD .skip, Tryz.func93, by kernel_rfl, stat93, has93⟩
noncomputable def row94 : FnRow Tryz.prog btAll := ⟨94, Tryz.f94, Tryz.f94.body.getD .skip, Tryz.func94, by kernel_rfl, stat94, has94⟩
noncomputable def row95 : FnRow Tryz.prog btAll := ⟨95, Tryz.f95, Tryz.f95.body.getD .skip, Tryz.func95, by kernel_rfl, stat95, has95⟩
noncomputable def row96 : FnRow Tryz.prog btAll := ⟨96, Tryz.f96, Tryz.f96.body.getD .skip, Tryz.func96, by kernel_rfl, stat96, has96⟩
noncomputable def row97 : FnRow Tryz.prog btAll := ⟨97, Tryz.f97, Tryz.f97.body.getD .skip, Tryz.func97, by kernel_rfl, stat97, has97⟩
noncomputable def row98 : FnRow Tryz.prog btAll := ⟨98, Tryz.f98, Tryz.f98.body.getD .skip, Tryz.func98, by kernel_rfl, stat98, has98⟩
noncomputable def row99 : FnRow Tryz.prog btAll := ⟨99, Tryz.f99, Tryz.f99.body.getD .skip, Tryz.func99, by kernel_rfl, stat99, has99⟩
noncomputable def row100 : FnRow Tryz.prog btAll := ⟨100, Tryz.f100, Tryz.f100.body.getD .skip, Tryz.func100, by kernel_rfl, stat100, has100⟩
noncomputable def row101 : FnRow Tryz.prog btAll := ⟨101, Tryz.f101, Tryz.f101.body.getD .skip, Tryz.func101, by kernel_rfl, stat101, has101⟩
noncomputable def row102 : FnRow Tryz.prog btAll := ⟨102, Tryz.f102, Tryz.f102.body.getD .skip, Tryz.func102, by kernel_rfl, stat102, has102⟩
noncomputable def row103 : FnRow Tryz.prog btAll := ⟨103, Tryz.f103, Tryz.f103.body.getD .skip, Tryz.func103, by kernel_rfl, stat103, has103⟩
noncomputable def row104 : FnRow Tryz.prog btAll := ⟨104, Tryz.f104, Tryz.f104.body.getD .skip, Tryz.func104, by kernel_rfl, stat104, has104⟩
noncomputable def row105 : FnRow Tryz.prog btAll := ⟨105, Tryz.f105, Tryz.f105.body.getD .skip, Tryz.func105, by kernel_rfl, stat105, has105⟩
noncomputable def row106 : FnRow Tryz.prog btAll := ⟨106, Tryz.f106, Tryz.f106.body.getD .skip, Tryz.func106, by kernel_rfl, stat106, has106⟩
noncomputable def row107 : FnRow Tryz.prog btAll := ⟨107, Tryz.f107, Tryz.f107.body.getD .skip, Tryz.func107, by kernel_rfl, stat107, has107⟩
noncomputable def row108 : FnRow Tryz.prog btAll := ⟨108, Tryz.f108, Tryz.f108.body.getD .skip, Tryz.func108, by kernel_rfl, stat108, has108⟩
noncomputable def row109 : FnRow Tryz.prog btAll := ⟨109, Tryz.f109, Tryz.f109.body.getD .skip, Tryz.func109, by kernel_rfl, stat109, has109⟩
noncomputable def row110 : FnRow Tryz.prog btAll := ⟨110, Tryz.f110, Tryz.f110.body.getD .skip, Tryz.func110, by kernel_rfl, stat110, has110⟩
noncomputable def row111 : FnRow Tryz.prog btAll := ⟨111, Tryz.f111, Tryz.f111.body.getD .skip, Tryz.func111, by kernel_rfl, stat111, has111⟩
noncomputable def row112 : FnRow Tryz.prog btAll := ⟨112, Tryz.f112, Tryz.f112.body.getD .skip, Tryz.func112, by kernel_rfl, stat112, has112⟩
noncomputable def row113 : FnRow Tryz.prog btAll := ⟨113, Tryz.f113, Tryz.f113.body.getD .skip, Tryz.func113, by kernel_rfl, stat113, has113⟩
noncomputable def row114 : FnRow Tryz.prog btAll := ⟨114, Tryz.f114, Tryz.f114.body.getD .skip, Tryz.func114, by kernel_rfl, stat114, has114⟩
noncomputable def row115 : FnRow Tryz.prog btAll := ⟨115, Tryz.f115, Tryz.f115.body.getD .skip, Tryz.func115, by kernel_rfl, stat115, has115⟩
noncomputable def row116 : FnRow Tryz.prog btAll := ⟨116, Tryz.f116, Tryz.f116.body.getD .skip, Tryz.func116, by kernel_rfl, stat116, has116⟩
noncomputable def row117 : FnRow Tryz.prog btAll := ⟨117, Tryz.f117, Tryz.f117.body.getD .skip, Tryz.func117, by kernel_rfl, stat117, has117⟩
noncomputable def row118 : FnRow Tryz.prog btAll := ⟨118, Tryz.f118, Tryz.f118.body.getD .skip, Tryz.func118, by kernel_rfl, stat118, has118⟩
noncomputable def row119 : FnRow Tryz.prog btAll := ⟨119, Tryz.f119, Tryz.f119.body.getD .skip, Tryz.func119, by kernel_rfl, stat119, has119⟩
noncomputable def row120 : FnRow Tryz.prog btAll := ⟨120, Tryz.f120, Tryz.f120.body.getD .skip, Tryz.func120, by kernel_rfl, stat120, has120⟩
noncomputable def row121 : FnRow Tryz.prog btAll := ⟨121, Tryz.f121, Tryz.f121.body.getD .skip, Tryz.func121, by kernel_rfl, stat121, has121⟩
noncomputable def row122 : FnRow Tryz.prog btAll := ⟨122, Tryz.f122, Tryz.f122.body.getD .skip, Tryz.func122, by kernel_rfl, stat122, has122⟩
noncomputable def row123 : FnRow Tryz.prog btAll := ⟨123, Tryz.f123, Tryz.f123.body.getD .skip, Tryz.func123, by kernel_rfl, stat123, has123⟩
noncomputable def row124 : FnRow Tryz.prog btAll := ⟨124, Tryz.f124, Tryz.f124.body.getD .skip, Tryz.func124, by kernel_rfl, stat124, has124⟩
noncomputable def row125 : FnRow Tryz.prog btAll := ⟨125, Tryz.f125, Tryz.f125.body.getD .skip, Tryz.func125, by kernel_rfl, stat125, has125⟩
noncomputable def row126 : FnRow Tryz.prog btAll := ⟨126, Tryz.f126, Tryz.f126.body.getD .skip, Tryz.func126, by kernel_rfl, stat126, has126⟩
noncomputable def row128 : FnRow Tryz.prog btAll := ⟨128, Tryz.f128, Tryz.f128.body.getD .skip, Tryz.func128, by kernel_rfl, stat128, has128⟩
noncomputable def row129 : FnRow Tryz.prog btAll := ⟨129, Tryz.f129, Tryz.f129.body.getD .skip, Tryz.func129, by kernel_rfl, stat129, has129⟩
noncomputable def row130 : FnRow Tryz.prog btAll := ⟨130, Tryz.f130, Tryz.f130.body.getD .skip, Tryz.func130, by kernel_rfl, stat130, has130⟩
noncomputable def row131 : FnRow Tryz.prog btAll := ⟨131, Tryz.f131, Tryz.f131.body.getD .skip, Tryz.func131, by kernel_rfl, stat131, has131⟩
noncomputable def row132 : FnRow Tryz.prog btAll := ⟨132, Tryz.f132, Tryz.f132.body.getD .skip, Tryz.func132, by kernel_rfl, stat132, has132⟩
noncomputable def row133 : FnRow Tryz.prog btAll := ⟨133, Tryz.f133, Tryz.f133.body.getD .skip, Tryz.func133, by kernel_rfl, stat133, has133⟩
noncomputable def row134 : FnRow Tryz.prog btAll := ⟨134, Tryz.f134, Tryz.f134.body.getD .skip, Tryz.func134, by kernel_rfl, stat134, has134⟩
noncomputable def row135 : FnRow Tryz.prog btAll := ⟨135, Tryz.f135, Tryz.f135.body.getD .skip, Tryz.func135, by kernel_rfl, stat135, has135⟩
noncomputable def row136 : FnRow Tryz.prog btAll := ⟨136, Tryz.f136, Tryz.f136.body.getD .skip, Tryz.func136, by kernel_rfl, stat136, has136⟩
noncomputable def row137 : FnRow Tryz.prog btAll := ⟨137, Tryz.f137, Tryz.f137.body.getD .skip, Tryz.func137, by kernel_rfl, stat137, has137⟩
noncomputable def row138 : FnRow Tryz.prog btAll := ⟨138, Tryz.f138, Tryz.f138.body.getD .skip, Tryz.func138, by kernel_rfl, stat138, has138⟩
noncomputable def row139 : FnRow Tryz.prog btAll := ⟨139, Tryz.f139, Tryz.f139.body.getD .skip, Tryz.func139, by kernel_rfl, stat139, has139⟩
noncomputable def row140 : FnRow Tryz.prog btAll := ⟨140, Tryz.f140, Tryz.f140.body.getD .skip, Tryz.func140, by kernel_rfl, stat140, has140⟩
noncomputable def row141 : FnRow Tryz.prog btAll := ⟨141, Tryz.f141, Tryz.f141.body.getD .skip, Tryz.func141, by kernel_rfl, stat141, has141⟩
noncomputable def row142 : FnRow Tryz.prog btAll := ⟨142, Tryz.f142, Tryz.f142.body.getD .skip, Tryz.func142, by kernel_rfl, stat142, has142⟩
noncomputable def row143 : FnRow Tryz.prog btAll := ⟨143, Tryz.f143, Tryz.f143.body.getD .skip, Tryz.func143, by kernel_rfl, stat143, has143⟩
noncomputable def row144 : FnRow Tryz.prog btAll := ⟨144, Tryz.f144, Tryz.f144.body.getD .skip, Tryz.func144, by kernel_rfl, stat144, has144⟩
noncomputable def row145 : FnRow Tryz.prog btAll := ⟨145, Tryz.f145, Tryz.f145.body.getD .skip, Tryz.func145, by kernel_rfl, stat145, has145⟩
noncomputable def row146 : FnRow Tryz.prog btAll := ⟨146, Tryz.f146, Tryz.f146.body.getD .skip, Tryz.func146, by kernel_rfl, stat146, has146⟩
noncomputable def row147 : FnRow Tryz.prog btAll := ⟨147, Tryz.f147, Tryz.f147.body.getD .skip, Tryz.func147, by kernel_rfl, stat147, has147⟩
noncomputable def row148 : FnRow Tryz.prog btAll := ⟨148, Tryz.f148, Tryz.f148.body.getD .skip, Tryz.func148, by kernel_rfl, stat148, has148⟩
noncomputable def row149 : FnRow Tryz.prog btAll := ⟨149, Tryz.f149, Tryz.f149.body.getD .skip, Tryz.func149, by kernel_rfl, stat149, has149⟩
noncomputable def row150 : FnRow Tryz.prog btAll := ⟨150, Tryz.f150, Tryz.f150.body.getD .skip, Tryz.func150, by kernel_rfl, stat150, has150⟩
noncomputable def row151 : FnRow Tryz.prog btAll := ⟨151, Tryz.f151, Tryz.f151.body.getD .skip, Tryz.func151, by kernel_rfl, stat151, has151⟩
noncomputable def row152 : FnRow Tryz.prog btAll := ⟨152, Tryz.f152, Tryz.f152.body.getD .skip, Tryz.func152, by kernel_rfl, stat152, has152⟩
noncomputable def row153 : FnRow Tryz.prog btAll := ⟨153, Tryz.f153, Tryz.f153.body.getD .skip, Tryz.func153, by kernel_rfl, stat153, has153⟩
noncomputable def row154 : FnRow Tryz.prog btAll := ⟨154, Tryz.f154, Tryz.f154.body.getD .skip, Tryz.func154, by kernel_rfl, stat154, has154⟩
noncomputable def row155 : FnRow Tryz.prog btAll := ⟨155, Tryz.f155, Tryz.f155.body.getD .skip, Tryz.func155, by kernel_rfl, stat155, has155⟩
noncomputable def row156 : FnRow Tryz.prog btAll := ⟨156, Tryz.f156, Tryz.f156.body.getD .skip, Tryz.func156, by kernel_rfl, stat156, has156⟩
noncomputable def row157 : FnRow Tryz.prog btAll := ⟨157, Tryz.f157, Tryz.f157.body.getD .skip, Tryz.func157, by kernel_rfl, stat157, has157⟩
noncomputable def row158 : FnRow Tryz.prog btAll := ⟨158, Tryz.f158, Tryz.f158.body.getD .skip, Tryz.func158, by kernel_rfl, stat158, has158⟩
noncomputable def row159 : FnRow Tryz.prog btAll := ⟨159, Tryz.f159, Tryz.f159.body.getD .skip, Tryz.func159, by kernel_rfl, stat159, has159⟩
noncomputable def row160 : FnRow Tryz.prog btAll := ⟨160, Tryz.f160, Tryz.f160.body.getD .skip, Tryz.func160, by kernel_rfl, stat160, has160⟩
noncomputable def row161 : FnRow Tryz.prog btAll := ⟨161, Tryz.f161, Tryz.f161.body.getD .skip, Tryz.func161, by kernel_rfl, stat161, has161⟩
noncomputable def row162 : FnRow Tryz.prog btAll := ⟨162, Tryz.f162, Tryz.f162.body.getD .skip, Tryz.func162, by kernel_rfl, stat162, has162⟩
noncomputable def row163 : FnRow Tryz.prog btAll := ⟨163, Tryz.f163, Tryz.f163.body.getD .skip, Tryz.func163, by kernel_rfl, stat163, has163⟩
noncomputable def row164 : FnRow Tryz.prog btAll := ⟨164, Tryz.f164, Tryz.f164.body.getD .skip, Tryz.func164, by kernel_rfl, stat164, has164⟩
noncomputable def row165 : FnRow Tryz.prog btAll := ⟨165, Tryz.f165, Tryz.f165.body.getD .skip, Tryz.func165, by kernel_rfl, stat165, has165⟩
noncomputable def row166 : FnRow Tryz.prog btAll := ⟨166, Tryz.f166, Tryz.f166.body.getD .skip, Tryz.func166, by kernel_rfl, stat166, has166⟩
noncomputable def row167 : FnRow Tryz.prog btAll := ⟨167, Tryz.f167, Tryz.f167.body.getD .skip, Tryz.func167, by kernel_rfl, stat167, has167⟩
noncomputable def row168 : FnRow Tryz.prog btAll := ⟨168, Tryz.f168, Tryz.f168.body.getD .skip, Tryz.func168, by kernel_rfl, stat168, has168⟩
noncomputable def row169 : FnRow Tryz.prog btAll := ⟨169, Tryz.f169, Tryz.f169.body.getD .skip, Tryz.func169, by kernel_rfl, stat169, has169⟩
noncomputable def row170 : FnRow Tryz.prog btAll := ⟨170, Tryz.f170, Tryz.f170.body.getD .skip, Tryz.func170, by kernel_rfl, stat170, has170⟩
noncomputable def row171 : FnRow Tryz.prog btAll := ⟨171, Tryz.f171, Tryz.f171.body.getD .skip, Tryz.func171, by kernel_rfl, stat171, has171⟩
noncomputable def row172 : FnRow Tryz.prog btAll := ⟨172, Tryz.f172, Tryz.f172.body.getD .skip, Tryz.func172, by kernel_rfl, stat172, has172⟩
noncomputable def row173 : FnRow Tryz.prog btAll := ⟨173, Tryz.f173, Tryz.f173.body.getD .skip, Tryz.func173, by kernel_rfl, stat173, has173⟩
noncomputable def row174 : FnRow Tryz.prog btAll := ⟨174, Tryz.f174, Tryz.f174.body.getD .skip, Tryz.func174, by kernel_rfl, stat174, has174⟩
noncomputable def row175 : FnRow Tryz.prog btAll := ⟨175, Tryz.f175, Tryz.f175.body.getD .skip, Tryz.func175, by kernel_rfl, stat175, has175⟩
noncomputable def row176 : FnRow Tryz.prog btAll := ⟨176, Tryz.f176, Tryz.f176.body.getD .skip, Tryz.func176, by kernel_rfl, stat176, has176⟩
noncomputable def row177 : FnRow Tryz.prog btAll := ⟨177, Tryz.f177, Tryz.f177.body.getD .skip, Tryz.func177, by kernel_rfl, stat177, has177⟩
noncomputable def row178 : FnRow Tryz.prog btAll := ⟨178, Tryz.f178, Tryz.f178.body.getD .skip, Tryz.func178, by kernel_rfl, stat178, has178⟩
noncomputable def row179 : FnRow Tryz.prog btAll := ⟨179, Tryz.f179, Tryz.f179.body.getD .skip, Tryz.func179, by kernel_rfl, stat179, has179⟩
noncomputable def row180 : FnRow Tryz.prog btAll := ⟨180, Tryz.f180, Tryz.f180.body.getD .skip, Tryz.func180, by kernel_rfl, stat180, has180⟩
noncomputable def row181 : FnRow Tryz.prog btAll := ⟨181, Tryz.f181, Tryz.f181.body.getD .skip, Tryz.func181, by kernel_rfl, stat181, has181⟩
noncomputable def row182 : FnRow Tryz.prog btAll := ⟨182, Tryz.f182, Tryz.f182.body.getD .skip, Tryz.func182, by kernel_rfl, stat182, has182⟩
noncomputable def row183 : FnRow Tryz.prog btAll := ⟨183, Tryz.f183, Tryz.f183.body.getD .skip, Tryz.func183, by kernel_rfl, stat183, has183⟩
noncomputable def row184 : FnRow Tryz.prog btAll := ⟨184, Tryz.f184, Tryz.f184.body.getD .skip, Tryz.func184, by kernel_rfl, stat184, has184⟩
noncomputable def row185 : FnRow Tryz.prog btAll := ⟨185, Tryz.f185, Tryz.f185.body.getD .skip, Tryz.func185, by kernel_rfl, stat185, has185⟩
noncomputable def row186 : FnRow Tryz.prog btAll := ⟨186, Tryz.f186, Tryz.f186.body.getD .skip, Tryz.func186, by kernel_rfl, stat186, has186⟩
noncomputable def row187 : FnRow Tryz.prog btAll := ⟨187, Tryz.f187, Tryz.f187.body.getD .skip, Tryz.func187, by kernel_rfl, stat187, has187⟩
noncomputable def row188 : FnRow Tryz.prog btAll := ⟨188, Tryz.f188, Tryz.f188.body.getD .skip, Tryz.func188, by kernel_rfl, stat188, has188⟩
noncomputable def row191 : FnRow Tryz.prog btAll := ⟨191, Tryz.f191, Tryz.f191.body.getD .skip, Tryz.func191, by kernel_rfl, stat191, has191⟩
noncomputable def row192 : FnRow Tryz.prog btAll := ⟨192, Tryz.f192, Tryz.f192.body.getD .skip, Tryz.func192, by kernel_rfl, stat192, has192⟩
noncomputable def row193 : FnRow Tryz.prog btAll := ⟨193, Tryz.f193, Tryz.f193.body.getD .skip, Tryz.func193, by kernel_rfl, stat193, has193⟩
noncomputable def row194 : FnRow Tryz.prog btAll := ⟨194, Tryz.f194, Tryz.f194.body.getD .skip, Tryz.func194, by kernel_rfl, stat194, has194⟩
noncomputable def row195 : FnRow Tryz.prog btAll := ⟨195, Tryz.f195, Tryz.f195.body.getD .skip, Tryz.func195, by kernel_rfl, stat195, has195⟩
noncomputable def row196 : FnRow Tryz.prog btAll := ⟨196, Tryz.f196, Tryz.f196.body.getD .skip, Tryz.func196, by kernel_rfl, stat196, has196⟩
noncomputable def row197 : FnRow Tryz.prog btAll := ⟨197, Tryz.f197, Tryz.f197.body.getD .skip, Tryz.func197, by kernel_rfl, stat197, has197⟩
noncomputable def row198 : FnRow Tryz.prog btAll := ⟨198, Tryz.f198, Tryz.f198.body.getD .skip, Tryz.func198, by kernel_rfl, stat198, has198⟩
noncomputable def row199 : FnRow Tryz.prog btAll := ⟨199, Tryz.f199, Tryz.f199.body.getD .skip, Tryz.func199, by kernel_rfl, stat199, has199⟩
noncomputable def row200 : FnRow Tryz.prog btAll := ⟨200, Tryz.f200, Tryz.f200.body.getD .skip, Tryz.func200, by kernel_rfl, stat200, has200⟩
noncomputable def row201 : FnRow Tryz.prog btAll := ⟨201, Tryz.f201, Tryz.f201.body.getD .skip, Tryz.func201, by kernel_rfl, stat201, has201⟩
noncomputable def row202 : FnRow Tryz.prog btAll := ⟨202, Tryz.f202, Tryz.f202.body.getD .skip, Tryz.func202, by kernel_rfl, stat202, has202⟩
noncomputable def row203 : FnRow Tryz.prog btAll := ⟨203, Tryz.f203, Tryz.f203.body.getD .skip, Tryz.func203, by kernel_rfl, stat203, has203⟩
noncomputable def row204 : FnRow Tryz.prog btAll := ⟨204, Tryz.f204, Tryz.f204.body.getD .skip, Tryz.func204, by kernel_rfl, stat204, has204⟩
noncomputable def row205 : FnRow Tryz.prog btAll := ⟨205, Tryz.f205, Tryz.f205.body.getD .skip, Tryz.func205, by kernel_rfl, stat205, has205⟩
noncomputable def row206 : FnRow Tryz.prog btAll := ⟨206, Tryz.f206, Tryz.f206.body.getD .skip, Tryz.func206, by kernel_rfl, stat206, has206⟩
noncomputable def row207 : FnRow Tryz.prog btAll := ⟨207, Tryz.f207, Tryz.f207.body.getD .skip, Tryz.func207, by kernel_rfl, stat207, has207⟩
noncomputable def row208 : FnRow Tryz.prog btAll := ⟨208, Tryz.f208, Tryz.f208.body.getD .skip, Tryz.func208, by kernel_rfl, stat208, has208⟩
noncomputable def row209 : FnRow Tryz.prog btAll := ⟨209, Tryz.f209, Tryz.f209.body.getD .skip, Tryz.func209, by kernel_rfl, stat209, has209⟩
noncomputable def row210 : FnRow Tryz.prog btAll := ⟨210, Tryz.f210, Tryz.f210.body.getD .skip, Tryz.func210, by kernel_rfl, stat210, has210⟩
noncomputable def row211 : FnRow Tryz.prog btAll := ⟨211, Tryz.f211, Tryz.f211.body.getD .skip, Tryz.func211, by kernel_rfl, stat211, has211⟩
noncomputable def row212 : FnRow Tryz.prog btAll := ⟨212, Tryz.f212, Tryz.f212.body.getD .skip, Tryz.func212, by kernel_rfl, stat212, has212⟩
noncomputable def row213 : FnRow Tryz.prog btAll := ⟨213, Tryz.f213, Tryz.f213.body.getD .skip, Tryz.func213, by kernel_rfl, stat213, has213⟩
noncomputable def row214 : FnRow Tryz.prog btAll := ⟨214, Tryz.f214, Tryz.f214.body.getD .skip, Tryz.func214, by kernel_rfl, stat214, has214⟩
noncomputable def row215 : FnRow Tryz.prog btAll := ⟨215, Tryz.f215, Tryz.f215.body.getD .skip, Tryz.func215, by kernel_rfl, stat215, has215⟩
noncomputable def row216 : FnRow Tryz.prog btAll := ⟨216, Tryz.f216, Tryz.f216.body.getD .skip, Tryz.func216, by kernel_rfl, stat216, has216⟩
noncomputable def row217 : FnRow Tryz.prog btAll := ⟨217, Tryz.f217, Tryz.f217.body.getD .skip, Tryz.func217, by kernel_rfl, stat217, has217⟩
noncomputable def row218 : FnRow Tryz.prog btAll := ⟨218, Tryz.f218, Tryz.f218.body.getD .skip, Tryz.func218, by kernel_rfl, stat218, has218⟩
noncomputable def row219 : FnRow Tryz.prog btAll := ⟨219, Tryz.f219, Tryz.f219.body.getD .skip, Tryz.func219, by kernel_rfl, stat219, has219⟩
noncomputable def row220 : FnRow Tryz.prog btAll := ⟨220, Tryz.f220, Tryz.f220.body.getD .skip, Tryz.func220, by kernel_rfl, stat220, has220⟩
noncomputable def row221 : FnRow Tryz.prog btAll := ⟨221, Tryz.f221, Tryz.f221.body.getD .skip, Tryz.func221, by kernel_rfl, stat221, has221⟩
noncomputable def row222 : FnRow Tryz.prog btAll := ⟨222, Tryz.f222, Tryz.f222.body.getD .skip, Tryz.func222, by kernel_rfl, stat222, has222⟩
noncomputable def row223 : FnRow Tryz.prog btAll := ⟨223, Tryz.f223, Tryz.f223.body.getD .skip, Tryz.func223, by kernel_rfl, stat223, has223⟩
noncomputable def row224 : FnRow Tryz.prog btAll := ⟨224, Tryz.f224, Tryz.f224.body.getD .skip, Tryz.func224, by kernel_rfl, stat224, has224⟩
noncomputable def row225 : FnRow Tryz.prog btAll := ⟨225, Tryz.f225, Tryz.f225.body.getD .skip, Tryz.func225, by kernel_rfl, stat225, has225⟩
noncomputable def row226 : FnRow Tryz.prog btAll := ⟨226, Tryz.f226, Tryz.f226.body.getD .skip, Tryz.func226, by kernel_rfl, stat226, has226⟩
noncomputable def row227 : FnRow Tryz.prog btAll := ⟨227, Tryz.f227, Tryz.f227.body.getD .skip, Tryz.func227, by kernel_rfl, stat227, has227⟩
noncomputable def row228 : FnRow Tryz.prog btAll := ⟨228, Tryz.f228, Tryz.f228.body.getD .skip, Tryz.func228, by kernel_rfl, stat228, has228⟩
noncomputable def row229 : FnRow Tryz.prog btAll := ⟨229, Tryz.f229, Tryz.f229.body.getD .skip, Tryz.func229, by kernel_rfl, stat229, has229⟩
noncomputable def row230 : FnRow Tryz.prog btAll := ⟨230, Tryz.f230, Tryz.f230.body.getD .skip, Tryz.func230, by kernel_rfl, stat230, has230⟩
noncomputable def row231 : FnRow Tryz.prog btAll := ⟨231, Tryz.f231, Tryz.f231.body.getD .skip, Tryz.func231, by kernel_rfl, stat231, has231⟩
noncomputable def row232 : FnRow Tryz.prog btAll := ⟨232, Tryz.f232, Tryz.f232.body.getD .skip, Tryz.func232, by kernel_rfl, stat232, has232⟩
noncomputable def row233 : FnRow Tryz.prog btAll := ⟨233, Tryz.f233, Tryz.f233.body.getD .skip, Tryz.func233, by kernel_rfl, stat233, has233⟩
noncomputable def row234 : FnRow Tryz.prog btAll := ⟨234, Tryz.f234, Tryz.f234.body.getD .skip, Tryz.func234, by kernel_rfl, stat234, has234⟩
noncomputable def row235 : FnRow Tryz.prog btAll := ⟨235, Tryz.f235, Tryz.f235.body.getD .skip, Tryz.func235, by kernel_rfl, stat235, has235⟩
noncomputable def row236 : FnRow Tryz.prog btAll := ⟨236, Tryz.f236, Tryz.f236.body.getD .skip, Tryz.func236, by kernel_rfl, stat236, has236⟩
noncomputable def row237 : FnRow Tryz.prog btAll := ⟨237, Tryz.f237, Tryz.f237.body.getD .skip, Tryz.func237, by kernel_rfl, stat237, has237⟩
noncomputable def row238 : FnRow Tryz.prog btAll := ⟨238, Tryz.f238, Tryz.f238.body.getD .skip, Tryz.func238, by kernel_rfl, stat238, has238⟩
noncomputable def row239 : FnRow Tryz.prog btAll := ⟨239, Tryz.f239, Tryz.f239.body.getD .skip, Tryz.func239, by kernel_rfl, stat239, has239⟩
noncomputable def row240 : FnRow Tryz.prog btAll := ⟨240, Tryz.f240, Tryz.f240.body.getD .skip, Tryz.func240, by kernel_rfl, stat240, has240⟩
noncomputable def row241 : FnRow Tryz.prog btAll := ⟨241, Tryz.f241, Tryz.f241.body.getD .skip, Tryz.func241, by kernel_rfl, stat241, has241⟩
noncomputable def row242 : FnRow Tryz.prog btAll := ⟨242, Tryz.f242, Tryz.f242.body.getD .skip, Tryz.func242, by kernel_rfl, stat242, has242⟩
noncomputable def row243 : FnRow Tryz.prog btAll := ⟨243, Tryz.f243, Tryz.f243.body.getD .skip, Tryz.func243, by kernel_rfl, stat243, has243⟩
noncomputable def row244 : FnRow Tryz.prog btAll := ⟨244, Tryz.f244, Tryz.f244.body.getD .skip, Tryz.func244, by kernel_rfl, stat244, has244⟩
noncomputable def row245 : FnRow Tryz.prog btAll := ⟨245, Tryz.f245, Tryz.f245.body.getD .skip, Tryz.func245, by kernel_rfl, stat245, has245⟩
noncomputable def row246 : FnRow Tryz.prog btAll := ⟨246, Tryz.f246, Tryz.f246.body.getD .skip, Tryz.func246, by kernel_rfl, stat246, has246⟩
noncomputable def row247 : FnRow Tryz.prog btAll := ⟨247, Tryz.f247, Tryz.f247.body.getD .skip, Tryz.func247, by kernel_rfl, stat247, has247⟩
noncomputable def row248 : FnRow Tryz.prog btAll := ⟨248, Tryz.f248, Tryz.f248.body.getD .skip, Tryz.func248, by kernel_rfl, stat248, has248⟩

noncomputable def fnTree : BT (FnRow Tryz.prog btAll) := (.node (.node (.node (.node (.node (.node (.node (.node .leaf none (.node .leaf (some row128) .leaf)) none (.node .leaf (some row64) (.node .leaf (some row192) .leaf))) none (.node (.node .leaf none (.node .leaf (some row160) .leaf)) (some row32) (.node .leaf (some row96) (.node .leaf (some row224) .leaf)))) none (.node (.node (.node .leaf none (.node .leaf (some row144) .leaf)) none (.node .leaf (some row80) (.node .leaf (some row208) .leaf))) (some row16) (.node (.node .leaf none (.node .leaf (some row176) .leaf)) (some row48) (.node .leaf (some row112) (.node .leaf (some row240) .leaf))))) none (.node (.node (.node (.node .leaf none (.node .leaf (some row136) .leaf)) none (.node .leaf (some row72) (.node .leaf (some row200) .leaf))) none (.node (.node .leaf none (.node .leaf (some row168) .leaf)) (some row40) (.node .leaf (some row104) (.node .leaf (some row232) .leaf)))) (some row8) (.node (.node (.node .leaf none (.node .leaf (some row152) .leaf)) none (.node .leaf (some row88) (.node .leaf (some row216) .leaf))) (some row24) (.node (.node .leaf none (.node .leaf (some row184) .leaf)) (some row56) (.node .leaf (some row120) (.node .leaf (some row248) .leaf)))))) none (.node (.node (.node (.node (.node .leaf none (.node .leaf (some row132) .leaf)) none (.node .leaf (some row68) (.node .leaf (some row196) .leaf))) none (.node (.node .leaf none (.node .leaf (some row164) .leaf)) (some row36) (.node .leaf (some row100) (.node .leaf (some row228) .leaf)))) none (.node (.node (.node .leaf none (.node .leaf (some row148) .leaf)) none (.node .leaf (some row84) (.node .leaf (some row212) .leaf))) (some row20) (.node (.node .leaf none (.node .leaf (some row180) .leaf)) (some row52) (.node .leaf (some row116) (.node .leaf (some row244) .leaf))))) (some row4) (.node (.node (.node (.node .leaf none (.node .leaf (some row140) .leaf)) none (.node .leaf (some row76) (.node .leaf (some row204) .leaf))) none (.node (.node .leaf none (.node .leaf (some row172) .leaf)) (some row44) (.node .leaf (some row108) (.node .leaf (some row236) .leaf)))) (some row12) (.node (.node (.node .leaf none (.node .leaf (some row156) .leaf)) none (.node .leaf (some row92) (.node .leaf (some row220) .leaf))) (some row28) (.node (.node .leaf none (.node .leaf (some row188) .leaf)) (some row60) (.node .leaf (some row124) .leaf)))))) none (.node (.node (.node (.node (.node (.node .leaf none (.node .leaf (some row130) .leaf)) none (.node .leaf (some row66) (.node .leaf (some row194) .leaf))) none (.node (.node .leaf none (.node .leaf (some row162) .leaf)) (some row34) (.node .leaf (some row98) (.node .leaf (some row226) .leaf)))) none (.node (.node (.node .leaf none (.node .leaf (some row146) .leaf)) none (.node .leaf (some row82) (.node .leaf (some row210) .leaf))) (some row18) (.node (.node .leaf none (.node .leaf (some row178) .leaf)) (some row50) (.node .leaf (some row114) (.node .leaf (some row242) .leaf))))) none (.node (.node (.node (.node .leaf none (.node .leaf (some row138) .leaf)) none (.node .leaf (some row74) (.node .leaf (some row202) .leaf))) none (.node (.node .leaf none (.node .leaf (some row170) .leaf)) (some row42) (.node .leaf (some row106) (.node .leaf (some row234) .leaf)))) (some row10) (.node (.node (.node .leaf none (.node .leaf (some row154) .leaf)) none (.node .leaf (some row90) (.node .leaf (some row218) .leaf))) (some row26) (.node (.node .leaf none (.node .leaf (some row186) .leaf)) (some row58) (.node .leaf (some row122) .leaf))))) (some row2) (.node (.node (.node (.node (.node .leaf none (.node .leaf (some row134) .leaf)) none (.node .leaf (some row70) (.node .leaf (some row198) .leaf))) none (.node (.node .leaf none (.node .leaf (some row166) .leaf)) (some row38) (.node .leaf (some row102) (.node .leaf (some row230) .leaf)))) none (.node (.node (.node .leaf none (.node .leaf (some row150) .leaf)) none (.node .leaf (some row86) (.node .leaf (some row214) .leaf))) (some row22) (.node (.node .leaf none (.node .leaf (some row182) .leaf)) (some row54) (.node .leaf (some row118) (.node .leaf (some row246) .leaf))))) (some row6) (.node (.node (.node (.node .leaf none (.node .leaf (some row142) .leaf)) none (.node .leaf (some row78) (.node .leaf (some row206) .leaf))) none (.node (.node .leaf none (.node .leaf (some row174) .leaf)) (some row46) (.node .leaf (some row110) (.node .leaf (some row238) .leaf)))) (some row14) (.node (.node (.node .leaf none (.node .leaf (some row158) .leaf)) none (.node .leaf (some row94) (.node .leaf (some row222) .leaf))) (some row30) (.node .leaf (some row62) (.node .leaf (some row126) .leaf))))))) none (.node (.node (.node (.node (.node (.node (.node .leaf none (.node .leaf (some row129) .leaf)) none (.node .leaf (some row65) (.node .leaf (some row193) .leaf))) none (.node (.node .leaf none (.node .leaf (some row161) .leaf)) (some row33) (.node .leaf (some row97) (.node .leaf (some row225) .leaf)))) none (.node (.node (.node .leaf none (.node .leaf (some row145) .leaf)) none (.node .leaf (some row81) (.node .leaf (some row209) .leaf))) (some row17) (.node (.node .leaf none (.node .leaf (some row177) .leaf)) (some row49) (.node .leaf (some row113) (.node .leaf (some row241) .leaf))))) none (.node (.node (.node (.node .leaf none (.node .leaf (some row137) .leaf)) none (.node .leaf (some row73) (.node .leaf (some row201) .leaf))) none (.node (.node .leaf none (.node .leaf (some row169) .leaf)) (some row41) (.node .leaf (some row105) (.node .leaf (some row233) .leaf)))) (some row9) (.node (.node (.node .leaf none (.node .leaf (some row153) .leaf)) none (.node .leaf (some row89) (.node .leaf (some row217) .leaf))) (some row25) (.node (.node .leaf none (.node .leaf (some row185) .leaf)) (some row57) (.node .leaf (some row121) .leaf))))) none (.node (.node (.node (.node (.node .leaf none (.node .leaf (some row133) .leaf)) none (.node .leaf (some row69) (.node .leaf (some row197) .leaf))) none (.node (.node .leaf none (.node .leaf (some row165) .leaf)) (some row37) (.node .leaf (some row101) (.node .leaf (some row229) .leaf)))) none (.node (.node (.node .leaf none (.node .leaf (some row149) .leaf)) none (.node .leaf (some row85) (.node .leaf (some row213) .leaf))) (some row21) (.node (.node .leaf none (.node .leaf (some row181) .leaf)) (some row53) (.node .leaf (some row117) (.node .leaf (some row245) .leaf))))) (some row5) (.node (.node (.node (.node .leaf none (.node .leaf (some row141) .leaf)) none (.node .leaf (some row77) (.node .leaf (some row205) .leaf))) none (.node (.node .leaf none (.node .leaf (some row173) .leaf)) (some row45) (.node .leaf (some row109) (.node .leaf (some row237) .leaf)))) (some row13) (.node (.node (.node .leaf none (.node .leaf (some row157) .leaf)) none (.node .leaf (some row93) (.node .leaf (some row221) .leaf))) (some row29) (.node .leaf (some row61) (.node .leaf (some row125) .leaf)))))) none (.node (.node (.node (.node (.node (.node .leaf none (.node .leaf (some row131) .leaf)) none (.node .leaf (some row67) (.node .leaf (some row195) .leaf))) none (.node (.node .leaf none (.node .leaf (some row163) .leaf)) (some row35) (.node .leaf (some row99) (.node .leaf (some row227) .leaf)))) none (.node (.node (.node .leaf none (.node .leaf (some row147) .leaf)) none (.node .leaf (some row83) (.node .leaf (some row211) .leaf))) (some row19) (.node (.node .leaf none (.node .leaf (some row179) .leaf)) (some row51) (.node .leaf (some row115) (.node .leaf (some row243) .leaf))))) none (.node (.node (.node (.node .leaf none (.node .leaf (some row139) .leaf)) none (.node .leaf (some row75) (.node .leaf (some row203) .leaf))) none (.node (.node .leaf none (.node .leaf (some row171) .leaf)) (some row43) (.node .leaf (some row107) (.node .leaf (some row235) .leaf)))) (some row11) (.node (.node (.node .leaf none (.node .leaf (some row155) .leaf)) none (.node .leaf (some row91) (.node .leaf (some row219) .leaf))) (some row27) (.node (.node .leaf none (.node .leaf (some row187) .leaf)) (some row59) (.node .leaf (some row123) .leaf))))) (some row3) (.node (.node (.node (.node (.node .leaf none (.node .leaf (some row135) .leaf)) none (.node .leaf (some row71) (.node .leaf (some row199) .leaf))) none (.node (.node .leaf none (.node .leaf (some row167) .leaf)) (some row39) (.node .leaf (some row103) (.node .leaf (some row231) .leaf)))) none (.node (.node (.node .leaf none (.node .leaf (some row151) .leaf)) none (.node .leaf (some row87) (.node .leaf (some row215) .leaf))) (some row23) (.node (.node .leaf none (.node .leaf (some row183) .leaf)) (some row55) (.node .leaf (some row119) (.node .leaf (some row247) .leaf))))) (some row7) (.node (.node (.node (.node .leaf none (.node .leaf (some row143) .leaf)) none (.node .leaf (some row79) (.node .leaf (some row207) .leaf))) none (.node (.node .leaf none (.node .leaf (some row175) .leaf)) (some row47) (.node .leaf (some row111) (.node .leaf (some row239) .leaf)))) (some row15) (.node (.node (.node .leaf none (.node .leaf (some row159) .leaf)) none (.node .leaf (some row95) (.node .leaf (some row223) .leaf))) (some row31) (.node (.node .leaf none (.node .leaf (some row191) .leaf)) (some row63) .leaf)))))))

noncomputable def fnAt (f : FuncId) : Option (FnRow Tryz.prog btAll) := fnTree.get (bits f f)
noncomputable def fnIs (f : FuncId) : Bool :=
  match fnAt f with
  | some r => Nat.beq r.num f
  | none => false
theorem fnIs_ok (f : FuncId) (h : fnIs f = true) : HasBody Tryz.prog f := by
  unfold fnIs at h
  split at h
  · rename_i r _
    rw [← Nat.eq_of_beq_eq_true h]
    exact r.has
  · cases h

theorem drawnMixed : Tryz.prog.follows .mixedOrders = true := by kernel_rfl

noncomputable def cT : Cx := { T := { info := tyAt, flat := flats Tryz.prog, ext := extAt }, bodies := fnIs }
theorem cT_ok : cT.Ok Tryz.prog := ⟨⟨tyAt_ok, cP_ok.T.flat, extAt_ok⟩, fnIs_ok⟩

/-- A whole call, from nothing. -/
noncomputable def whole (n d : Nat) (f : FuncId) (args : List Value) : Option (AE × St × Log) := (orcN cT btAll fnAt n d).call f args St.nil

def answers : Option (AE × St × Log) → Option Value
  | some (.ret v, _, _) => some v
  | _ => none

theorem whole_call {n d : Nat} {f : FuncId} {args : List Value} {v : Value} (h : answers (whole n d f args) = some v) (ha : plainL args = true) (hv : plain v = true) (σ : St) : DCall Tryz.prog f args σ (.ret v) σ [] := by
  unfold answers at h
  split at h
  · rename_i v' σ' lg hw
    cases h
    exact ((orcN_ok cT_ok drawnMixed d).call f args St.nil _ σ' lg hw).alone ha hv σ
  · cases h

end Go.Ab
