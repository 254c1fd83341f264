/- The functions and types of the seat's program as trees, and the runner of whole calls over them. -/
import Derived.Test.YtlipmhhndhhgdaaTc
import Derived.Test.YtlipmhhndhhgdaaFr
set_option linter.unusedSimpArgs false
set_option linter.unusedVariables false
namespace Go.Ab
open Go.Proofs

def btTab : List (Nat × List (Nat × List Nat)) := [
  (5, [(17, [0, 0, 0, 0, 12, 28, 60, 127, 255, 511, 511, 0, 3071, 8191]), (19, [0, 0, 0, 0, 12, 28, 60, 127, 255, 511, 511, 0, 3071, 8191])]),
  (6, [(9, [0, 0, 3, 7, 15, 31, 63, 127, 127, 511, 1023, 2047, 4095, 8191, 16383, 32767, 32767, 131071, 262143, 524287, 1048575, 2097151, 4194303, 8388607, 8388607, 33554431, 67108863, 134217727, 268435455, 536870911, 1073741823, 2147483647, 4294967295, 8589934591, 17179869183, 17179869183, 51539607551, 137438953471, 274877906943, 549755813887, 17179869183, 17179869183, 3315714752511, 7713761263615, 16509854285823, 35184372088831, 70368744177663, 140737488355327]), (16, [0, 0, 0, 0, 0, 24, 56, 120, 0, 0, 768, 1792, 3840, 8184, 16380, 32766, 65535]), (18, [0, 0, 0, 0, 12, 28, 60, 126, 0, 0, 768, 1792, 3840, 8191, 16383, 32767, 32767, 0, 196607, 524287])]),
  (8, [(8, [0, 0, 0, 0, 12, 28, 63, 127, 255, 255, 0, 1535, 4095]), (14, [0, 0, 2, 7, 15, 31, 63, 127, 127, 383, 127, 1919, 3967, 8191, 16383, 32767, 65535, 131071, 262143, 524287, 1048575, 1048575, 4194303, 8388607, 16777215])]),
  (9, [(31, [0, 1, 3, 7, 15, 31, 63, 15, 143, 511, 1023, 2047, 4095, 8191, 16383, 32767, 65535, 131071, 262143, 524287, 1048575])]),
  (10, [(8, [0, 0, 0, 0, 12, 28, 63, 127, 255, 255, 511]), (16, [0, 0, 2, 6, 15, 31, 63, 63, 191, 63, 959, 1983, 4095, 8191]), (24, [0, 0, 0, 0, 12, 28, 63, 127, 255, 255, 511]), (25, [0, 0, 0, 4, 12, 30, 63, 127, 255, 255, 1023, 2047, 4095, 8191, 8191, 32767, 65535, 131071, 262143, 262143, 1048575, 262143, 2359295, 262143, 8650751, 33554431, 67108863, 134217727, 268435455, 536870911, 536870911, 2147483647, 4294967295, 8589934591, 17179869183, 34359738367, 68719476735])]),
  (14, [(11, [0, 0, 2, 6, 14, 0, 0, 0, 128, 384, 896, 2016, 4064, 8190, 16383, 32767, 65535])]),
  (15, [(8, [0, 1, 3, 7, 0, 0, 63, 127, 255])]),
  (18, [(15, [0, 0, 0, 6, 14, 30, 30, 126, 254, 31, 1023])]),
  (20, [(1, [0, 1, 3, 7, 0, 16, 48, 127, 255, 0, 512, 2047, 4095, 0, 8192, 24576, 65535, 131071, 262143, 524287])]),
  (24, [(9, [0, 1, 3, 7, 0, 0, 0, 0, 0, 256, 992, 2016, 4095])]),
  (25, [(3, [0, 1, 3, 7, 0, 16, 63, 127]), (4, [0, 1, 3, 7, 0, 16, 63, 127, 255, 255, 0, 1535, 4095]), (11, [0, 1, 0, 4, 12, 28, 0, 64, 192, 448, 1020, 2047, 4095]), (15, [0, 1, 0, 4, 12, 28, 63, 127, 255, 511, 511, 0, 3071, 8191]), (16, [0, 1, 0, 4, 12, 28, 63, 127, 255, 255, 0, 1535, 4095]), (20, [0, 0, 0, 0, 8, 24, 56, 0, 128, 504, 125, 1149, 3197, 8191, 16383, 32767]), (21, [0, 1, 3, 7, 0, 16, 0, 127]), (22, [0, 1, 3, 7, 0, 16, 0, 127])]),
  (26, [(4, [0, 1, 3, 7, 0, 16, 63, 0, 255]), (5, [0, 1, 3, 7, 0, 16, 63]), (6, [0, 1, 3, 7, 0, 16, 63, 127, 255, 511, 0, 1024, 4095, 8191, 16383, 32767]), (7, [0, 0, 2, 1, 15, 31])]),
  (29, [(7, [0, 0, 2, 6, 15, 31, 63, 63, 191, 63, 959, 1983, 4095, 8191]), (11, [0, 0, 2, 6, 15, 31, 63, 127, 63, 511, 1023, 2047, 4095, 4095, 12287, 32767, 65535, 131071, 262143, 524287, 1048575, 2097151, 2097151, 6291455, 14680063, 31457279, 67108863, 134217727, 268435455, 536870911])]),
  (34, [(3, [0, 1, 3, 7, 0, 0, 0, 0, 128, 384, 896, 2047, 4095])]),
  (35, [(3, [0, 1, 0, 4, 12, 28, 63, 127]), (5, [0, 1, 3, 7, 0, 31, 63])]),
  (36, [(14, [0, 1, 3, 7, 0, 0, 48, 0, 128, 384, 896, 1920, 3968, 8064, 0, 32640, 112, 131071, 262143, 524287]), (16, [0, 1, 3, 7, 0, 16, 48, 112, 255, 511, 1023, 2047])]),
  (37, [(3, [0, 1, 3, 7, 15, 31, 63, 127, 0, 256, 768, 1792, 3840, 7936, 16128, 255, 65535, 131071])]),
  (38, [(3, [0, 1, 0, 4, 12, 28, 63, 127]), (5, [0, 1, 3, 7, 0, 0, 32, 96, 224, 511, 1023, 1023, 4095, 8191])]),
  (39, [(3, [0, 1, 3, 7, 15, 31, 63, 0, 128, 384, 896, 1983, 0, 4096, 12288, 28672, 65535, 131071, 262143])]),
  (42, [(6, [0, 0, 3, 7, 0, 0, 48, 112, 255])]),
  (45, [(1, [0, 1, 3, 7, 15, 31, 63, 127, 255, 511, 1023, 2047, 511, 4607, 12799, 32767, 65535, 131071])]),
  (46, [(0, [0, 1, 3, 7, 15, 0, 32, 96, 224, 0, 992, 2016, 4064, 0, 16383])]),
  (47, [(2, [0, 1, 3, 7, 0, 31, 63, 0, 128, 384, 896, 0, 3968, 8064, 16383, 32767])]),
  (49, [(1, [0, 1, 3, 7, 0, 31, 63, 0, 128, 384, 896, 1920, 3968, 0, 8319, 32767]), (4, [0, 1, 3, 7, 15, 0, 32, 127])]),
  (51, [(8, [0, 0, 3, 0, 15, 31, 63])]),
  (53, [(3, [0, 1, 0, 4, 12, 28, 3, 127, 255])]),
  (54, [(11, [0, 0, 0, 6, 14, 30, 0, 0, 192, 448, 960, 2046, 4095, 8191])]),
  (57, [(6, [0, 0, 3, 7, 0, 0, 48, 112, 255]), (7, [0, 0, 3, 7, 0, 0, 48, 112, 255, 511])]),
  (70, [(5, [0, 1, 0, 4, 12, 28, 0, 64, 252, 511, 1023]), (7, [0, 1, 3, 7, 15, 0, 32, 127, 255, 511, 1023, 2047]), (9, [0, 1, 3, 7, 0, 16, 48, 112, 240, 511]), (10, [0, 0, 2, 6, 0, 16, 48, 112, 240, 511]), (11, [0, 1, 3, 7, 0, 0, 32, 96, 224, 496, 0, 2047, 4095])]),
  (76, [(6, [0, 0, 3, 7, 0, 0, 48, 112, 255])]),
  (77, [(2, [0, 0, 0, 6, 3, 31])]),
  (81, [(4, [0, 0, 2, 6, 14, 30, 63, 127, 255, 511, 1023, 2047, 255, 8191, 16383, 255, 33023, 98559, 229631, 255, 1016063, 2064639, 4194303, 8388607, 16777215])]),
  (83, [(3, [0, 1, 0, 7, 15, 31, 0, 64, 255, 511]), (4, [0, 1, 3, 7, 15, 31, 63, 127, 63, 511, 1023, 2047, 63, 4159, 16383, 32767, 65535]), (6, [0, 1, 0, 7, 15, 0, 32, 127, 0, 256, 0, 1792, 4095, 8191, 16383])]),
  (84, [(1, [0, 1, 0, 7, 15, 0, 32, 0, 128, 480, 1023, 2047, 4095])]),
  (88, [(5, [0, 1, 3, 0, 8, 24, 63, 0, 128, 511, 0, 1024, 3072, 8191, 0, 0, 65535, 131071]), (8, [0, 0, 3, 0, 8, 24, 63, 127])]),
  (90, [(2, [0, 1, 0, 4, 0, 16, 60, 127, 255, 511, 1023, 0, 2303, 8191, 16383])]),
  (92, [(2, [0, 0, 3, 0, 0, 0, 48, 127, 255])]),
  (94, [(2, [0, 1, 3, 0, 8, 24, 0, 120, 255, 0, 512, 2047, 0, 4096, 12288, 0, 61440, 131071, 0, 0, 1048575, 2097151]), (3, [0, 0, 3, 0, 8, 24, 0, 71, 255]), (7, [0, 0, 3, 0, 8, 24, 7, 127]), (10, [0, 1, 3, 0, 15, 0, 32, 96, 0, 480, 1023, 0, 4095])]),
  (96, [(10, [0, 0, 2, 0, 0, 16, 56, 120, 0, 256, 768, 2040, 4095, 8191])]),
  (103, [(5, [0, 0, 2, 6, 14, 0, 0, 96, 254, 510, 1022, 2047, 4095])]),
  (104, [(1, [0, 1, 3, 7, 0, 31, 0, 64, 192, 448, 960, 2047, 4095])]),
  (108, [(3, [0, 0, 0, 4, 0, 16, 48, 112, 240, 253, 765, 1789, 4095, 8191, 16383])]),
  (115, [(0, [0, 0, 0, 0, 0, 0, 48, 112, 0, 0, 768, 1792, 4083, 8179, 16383, 32767])]),
  (116, [(3, [0, 1, 3, 7, 0, 16, 48, 127, 255, 511])]),
  (121, [(8, [0, 0, 2, 1, 15])]),
  (130, [(4, [0, 0, 0, 6, 15, 31])]),
  (134, [(3, [0, 1, 3, 7, 0, 16, 48, 112, 255, 511, 1023, 2047])]),
  (145, [(6, [0, 0, 3, 0, 0, 24, 7, 127])]),
  (147, [(17, [0, 1, 3, 7, 7, 7, 39, 119, 247, 7, 7, 1543, 3591, 8191, 16383, 32767, 65535])]),
  (149, [(8, [0, 0, 2, 1, 15])]),
  (151, [(4, [0, 0, 3, 7, 15, 15, 15, 111, 239, 15, 15, 1039, 3599, 7695, 16383, 32767, 65535]), (6, [0, 0, 0, 0, 8, 0, 0, 64, 224, 480, 0, 0, 3072, 7168, 16355, 32739, 65535, 131071])]),
  (152, [(10, [0, 0, 0, 0, 0, 24, 0, 0, 0, 384, 960, 1984, 0, 0, 12288, 28672, 65475, 131011, 262143, 524287])]),
  (153, [(10, [0, 0, 0, 0, 0, 24, 0, 0, 0, 384, 960, 1984, 0, 0, 12288, 28672, 65475, 131011, 262143, 524287])]),
  (155, [(3, [0, 0, 0, 0, 0, 0, 48, 112, 0, 0, 768, 1792, 4083, 8179, 16383, 32767])]),
  (156, [(5, [0, 0, 3, 7, 15, 15, 15, 111, 239, 15, 15, 1039, 3599, 7695, 16383, 32767, 65535, 131071]), (11, [0, 0, 0, 0, 8, 0, 0, 64, 224, 480, 0, 0, 3072, 7168, 16355, 32739, 65535, 131071]), (16, [0, 0, 0, 6, 14, 0, 0, 64, 224, 480, 1023, 2047, 4095]), (17, [0, 0, 0, 0, 8, 0, 0, 64, 224, 480, 0, 0, 3072, 7168, 16355, 32739, 65535, 131071]), (22, [0, 0, 0, 6, 14, 0, 0, 64, 224, 480, 1023, 2047, 4095]), (23, [0, 0, 0, 0, 8, 0, 0, 64, 224, 480, 0, 0, 3072, 7168, 16355, 32739, 65535, 131071])]),
  (157, [(1, [0, 0, 0, 0, 0, 0, 48, 112, 0, 0, 768, 1792, 4083, 8179, 16383, 32767]), (3, [0, 0, 3, 7, 15, 15, 15, 111, 239, 15, 15, 1551, 3599, 8191, 16383, 32767, 65535]), (5, [0, 0, 3, 7, 15, 15, 15, 111, 239, 15, 15, 1551, 3599, 8191, 16383, 32767]), (8, [0, 0, 0, 0, 0, 0, 48, 112, 0, 0, 768, 1792, 4083, 8179, 16383, 32767])]),
  (158, [(1, [0, 0, 0, 0, 0, 0, 48, 112, 0, 0, 768, 1792, 4083, 8179, 16383, 32767]), (3, [0, 0, 3, 7, 15, 15, 15, 111, 239, 15, 15, 1551, 3599, 8191, 16383, 32767]), (5, [0, 0, 3, 7, 15, 15, 15, 111, 239, 15, 15, 1551, 3599, 8191, 16383, 32767, 65535]), (8, [0, 0, 0, 0, 0, 0, 48, 112, 0, 0, 768, 1792, 4083, 8179, 16383, 32767]), (10, [0, 0, 0, 0, 0, 0, 48, 112, 0, 0, 768, 1792, 4083, 8179, 16383, 32767]), (13, [0, 0, 3, 7, 15, 15, 15, 111, 239, 15, 15, 1551, 3599, 8191, 16383, 32767]), (15, [0, 0, 3, 7, 15, 15, 15, 111, 239, 15, 15, 1551, 3599, 8191, 16383, 32767, 65535]), (18, [0, 0, 0, 0, 0, 0, 48, 112, 0, 0, 768, 1792, 4083, 8179, 16383, 32767]), (21, [0, 0, 0, 0, 0, 0, 48, 112, 0, 0, 768, 1792, 4083, 8179, 16383, 32767])]),
  (161, [(3, [0, 1, 0, 7, 15, 31, 31, 31, 31, 415, 991, 2015, 31, 31, 31, 24607, 57375, 127007, 258079, 524287, 1048575, 2097151]), (5, [0, 0, 0, 0, 12, 30, 62, 0, 0, 0, 768, 1920, 3968, 8191, 16383, 32767]), (6, [0, 0, 0, 6, 0, 0, 0, 96, 0, 0, 0, 1536, 3840, 7936, 0, 0, 0, 98304, 245760, 507904, 1048335, 2096911, 4194303, 8388607])]),
  (163, [(1, [0, 1, 3, 0, 8, 24, 56, 127, 255, 511]), (2, [0, 1, 3, 0, 8, 24, 56, 127, 255, 511]), (3, [0, 1, 3, 0, 8, 24, 56, 127, 255, 511])]),
  (166, [(1, [0, 0, 0, 6, 14, 0, 0, 96, 224, 511, 1023])])]

def lookN {α : Type} (d : α) : List (Nat × α) → Nat → α
  | [], _ => d
  | (k, v) :: r, n => match Nat.beq k n with
    | true => v
    | false => lookN d r n

def btAll (f : FuncId) (r : Nat) : List Nat :=
  match Nat.beq r 1000000 with
  | true => [f]
  | false => lookN [] (lookN [] btTab f) r

inductive BT (α : Type) where
  | leaf
  | node (l : BT α) (o : Option α) (r : BT α)
def BT.get {α : Type} : BT α → List Bool → Option α
  | .leaf, _ => none
  | .node _ o _, [] => o
  | .node l _ r, b :: bs => match b with | true => r.get bs | false => l.get bs

structure TyRow where
  num : TypeId
  info : TypeInfo
  at' : Try.prog.info? num = some info

noncomputable def ty0 : TyRow := ⟨0, Try.t0, info0⟩
noncomputable def ty1 : TyRow := ⟨1, Try.t1, info1⟩
noncomputable def ty2 : TyRow := ⟨2, Try.t2, info2⟩
noncomputable def ty3 : TyRow := ⟨3, Try.t3, info3⟩
noncomputable def ty4 : TyRow := ⟨4, Try.t4, info4⟩
noncomputable def ty5 : TyRow := ⟨5, Try.t5, info5⟩
noncomputable def ty6 : TyRow := ⟨6, Try.t6, info6⟩
noncomputable def ty7 : TyRow := ⟨7, Try.t7, info7⟩
noncomputable def ty8 : TyRow := ⟨8, Try.t8, info8⟩
noncomputable def ty9 : TyRow := ⟨9, Try.t9, info9⟩
noncomputable def ty10 : TyRow := ⟨10, Try.t10, info10⟩
noncomputable def ty11 : TyRow := ⟨11, Try.t11, info11⟩
noncomputable def ty12 : TyRow := ⟨12, Try.t12, info12⟩
noncomputable def ty13 : TyRow := ⟨13, Try.t13, info13⟩
noncomputable def ty14 : TyRow := ⟨14, Try.t14, info14⟩
noncomputable def ty15 : TyRow := ⟨15, Try.t15, info15⟩
noncomputable def ty16 : TyRow := ⟨16, Try.t16, info16⟩
noncomputable def ty17 : TyRow := ⟨17, Try.t17, info17⟩
noncomputable def ty18 : TyRow := ⟨18, Try.t18, info18⟩
noncomputable def ty19 : TyRow := ⟨19, Try.t19, info19⟩
noncomputable def ty20 : TyRow := ⟨20, Try.t20, info20⟩
noncomputable def ty21 : TyRow := ⟨21, Try.t21, info21⟩
noncomputable def ty22 : TyRow := ⟨22, Try.t22, info22⟩
noncomputable def ty23 : TyRow := ⟨23, Try.t23, info23⟩
noncomputable def ty24 : TyRow := ⟨24, Try.t24, info24⟩
noncomputable def ty25 : TyRow := ⟨25, Try.t25, info25⟩
noncomputable def ty26 : TyRow := ⟨26, Try.t26, info26⟩
noncomputable def ty27 : TyRow := ⟨27, Try.t27, info27⟩
noncomputable def ty28 : TyRow := ⟨28, Try.t28, info28⟩
noncomputable def ty29 : TyRow := ⟨29, Try.t29, info29⟩
noncomputable def ty30 : TyRow := ⟨30, Try.t30, info30⟩
noncomputable def ty31 : TyRow := ⟨31, Try.t31, info31⟩
noncomputable def ty32 : TyRow := ⟨32, Try.t32, info32⟩
noncomputable def ty33 : TyRow := ⟨33, Try.t33, info33⟩
noncomputable def ty34 : TyRow := ⟨34, Try.t34, info34⟩
noncomputable def ty35 : TyRow := ⟨35, Try.t35, info35⟩
noncomputable def ty36 : TyRow := ⟨36, Try.t36, info36⟩
noncomputable def ty37 : TyRow := ⟨37, Try.t37, info37⟩
noncomputable def ty38 : TyRow := ⟨38, Try.t38, info38⟩
noncomputable def ty39 : TyRow := ⟨39, Try.t39, info39⟩
noncomputable def ty40 : TyRow := ⟨40, Try.t40, info40⟩
noncomputable def ty41 : TyRow := ⟨41, Try.t41, info41⟩
noncomputable def ty42 : TyRow := ⟨42, Try.t42, info42⟩
noncomputable def ty43 : TyRow := ⟨43, Try.t43, info43⟩
noncomputable def ty44 : TyRow := ⟨44, Try.t44, info44⟩
noncomputable def ty45 : TyRow := ⟨45, Try.t45, info45⟩
noncomputable def ty46 : TyRow := ⟨46, Try.t46, info46⟩
noncomputable def ty47 : TyRow := ⟨47, Try.t47, info47⟩
noncomputable def ty48 : TyRow := ⟨48, Try.t48, info48⟩
noncomputable def ty49 : TyRow := ⟨49, Try.t49, info49⟩
noncomputable def ty50 : TyRow := ⟨50, Try.t50, info50⟩
noncomputable def ty51 : TyRow := ⟨51, Try.t51, info51⟩
noncomputable def ty52 : TyRow := ⟨52, Try.t52, info52⟩
noncomputable def ty53 : TyRow := ⟨53, Try.t53, info53⟩
noncomputable def ty54 : TyRow := ⟨54, Try.t54, info54⟩
noncomputable def ty55 : TyRow := ⟨55, Try.t55, info55⟩
noncomputable def ty56 : TyRow := ⟨56, Try.t56, info56⟩
noncomputable def ty57 : TyRow := ⟨57, Try.t57, info57⟩
noncomputable def ty58 : TyRow := ⟨58, Try.t58, info58⟩
noncomputable def ty59 : TyRow := ⟨59, Try.t59, info59⟩
noncomputable def ty60 : TyRow := ⟨60, Try.t60, info60⟩
noncomputable def ty61 : TyRow := ⟨61, Try.t61, info61⟩
noncomputable def ty62 : TyRow := ⟨62, Try.t62, info62⟩
noncomputable def ty63 : TyRow := ⟨63, Try.t63, info63⟩
noncomputable def ty64 : TyRow := ⟨64, Try.t64, info64⟩
noncomputable def ty65 : TyRow := ⟨65, Try.t65, info65⟩
noncomputable def ty66 : TyRow := ⟨66, Try.t66, info66⟩
noncomputable def ty67 : TyRow := ⟨67, Try.t67, info67⟩
noncomputable def ty68 : TyRow := ⟨68, Try.t68, info68⟩
noncomputable def ty69 : TyRow := ⟨69, Try.t69, info69⟩
noncomputable def ty70 : TyRow := ⟨70, Try.t70, info70⟩
noncomputable def ty71 : TyRow := ⟨71, Try.t71, info71⟩
noncomputable def ty72 : TyRow := ⟨72, Try.t72, info72⟩
noncomputable def ty73 : TyRow := ⟨73, Try.t73, info73⟩
noncomputable def ty74 : TyRow := ⟨74, Try.t74, info74⟩
noncomputable def ty75 : TyRow := ⟨75, Try.t75, info75⟩
noncomputable def ty76 : TyRow := ⟨76, Try.t76, info76⟩
noncomputable def ty77 : TyRow := ⟨77, Try.t77, info77⟩
noncomputable def ty78 : TyRow := ⟨78, Try.t78, info78⟩
noncomputable def ty79 : TyRow := ⟨79, Try.t79, info79⟩
noncomputable def ty80 : TyRow := ⟨80, Try.t80, info80⟩
noncomputable def ty81 : TyRow := ⟨81, Try.t81, info81⟩
noncomputable def ty82 : TyRow := ⟨82, Try.t82, info82⟩
noncomputable def ty83 : TyRow := ⟨83, Try.t83, info83⟩
noncomputable def ty84 : TyRow := ⟨84, Try.t84, info84⟩
noncomputable def ty85 : TyRow := ⟨85, Try.t85, info85⟩
noncomputable def ty86 : TyRow := ⟨86, Try.t86, info86⟩
noncomputable def ty87 : TyRow := ⟨87, Try.t87, info87⟩
noncomputable def ty88 : TyRow := ⟨88, Try.t88, info88⟩
noncomputable def ty89 : TyRow := ⟨89, Try.t89, info89⟩
noncomputable def ty90 : TyRow := ⟨90, Try.t90, info90⟩
noncomputable def ty91 : TyRow := ⟨91, Try.t91, info91⟩
noncomputable def ty92 : TyRow := ⟨92, Try.t92, info92⟩
noncomputable def ty93 : TyRow := ⟨93, Try.t93, info93⟩
noncomputable def ty94 : TyRow := ⟨94, Try.t94, info94⟩
noncomputable def ty95 : TyRow := ⟨95, Try.t95, info95⟩
noncomputable def ty96 : TyRow := ⟨96, Try.t96, info96⟩
noncomputable def ty97 : TyRow := ⟨97, Try.t97, info97⟩
noncomputable def ty98 : TyRow := ⟨98, Try.t98, info98⟩
noncomputable def ty99 : TyRow := ⟨99, Try.t99, info99⟩
noncomputable def ty100 : TyRow := ⟨100, Try.t100, info100⟩
noncomputable def ty101 : TyRow := ⟨101, Try.t101, info101⟩
noncomputable def ty102 : TyRow := ⟨102, Try.t102, info102⟩
noncomputable def ty103 : TyRow := ⟨103, Try.t103, info103⟩
noncomputable def ty104 : TyRow := ⟨104, Try.t104, info104⟩
noncomputable def ty105 : TyRow := ⟨105, Try.t105, info105⟩
noncomputable def ty106 : TyRow := ⟨106, Try.t106, info106⟩
noncomputable def ty107 : TyRow := ⟨107, Try.t107, info107⟩
noncomputable def ty108 : TyRow := ⟨108, Try.t108, info108⟩
noncomputable def ty109 : TyRow := ⟨109, Try.t109, info109⟩
noncomputable def ty110 : TyRow := ⟨110, Try.t110, info110⟩
noncomputable def ty111 : TyRow := ⟨111, Try.t111, info111⟩
noncomputable def ty112 : TyRow := ⟨112, Try.t112, info112⟩
noncomputable def ty113 : TyRow := ⟨113, Try.t113, info113⟩
noncomputable def ty114 : TyRow := ⟨114, Try.t114, info114⟩
noncomputable def ty115 : TyRow := ⟨115, Try.t115, info115⟩
noncomputable def ty116 : TyRow := ⟨116, Try.t116, info116⟩
noncomputable def ty117 : TyRow := ⟨117, Try.t117, info117⟩
noncomputable def ty118 : TyRow := ⟨118, Try.t118, info118⟩
noncomputable def ty119 : TyRow := ⟨119, Try.t119, info119⟩
noncomputable def ty120 : TyRow := ⟨120, Try.t120, info120⟩
noncomputable def ty121 : TyRow := ⟨121, Try.t121, info121⟩
noncomputable def ty122 : TyRow := ⟨122, Try.t122, info122⟩
noncomputable def ty123 : TyRow := ⟨123, Try.t123, info123⟩
noncomputable def ty124 : TyRow := ⟨124, Try.t124, info124⟩
noncomputable def ty125 : TyRow := ⟨125, Try.t125, info125⟩
noncomputable def ty126 : TyRow := ⟨126, Try.t126, info126⟩
noncomputable def ty127 : TyRow := ⟨127, Try.t127, info127⟩
noncomputable def ty128 : TyRow := ⟨128, Try.t128, info128⟩
noncomputable def ty129 : TyRow := ⟨129, Try.t129, info129⟩
noncomputable def ty130 : TyRow := ⟨130, Try.t130, info130⟩
noncomputable def ty131 : TyRow := ⟨131, Try.t131, info131⟩
noncomputable def ty132 : TyRow := ⟨132, Try.t132, info132⟩
noncomputable def ty133 : TyRow := ⟨133, Try.t133, info133⟩
noncomputable def ty134 : TyRow := ⟨134, Try.t134, info134⟩
noncomputable def ty135 : TyRow := ⟨135, Try.t135, info135⟩
noncomputable def ty136 : TyRow := ⟨136, Try.t136, info136⟩
noncomputable def ty137 : TyRow := ⟨137, Try.t137, info137⟩
noncomputable def ty138 : TyRow := ⟨138, Try.t138, info138⟩
noncomputable def ty139 : TyRow := ⟨139, Try.t139, info139⟩
noncomputable def ty140 : TyRow := ⟨140, Try.t140, info140⟩
noncomputable def ty141 : TyRow := ⟨141, Try.t141, info141⟩
noncomputable def ty142 : TyRow := ⟨142, Try.t142, info142⟩
noncomputable def ty143 : TyRow := ⟨143, Try.t143, info143⟩
noncomputable def ty144 : TyRow := ⟨144, Try.t144, info144⟩
noncomputable def ty145 : TyRow := ⟨145, Try.t145, info145⟩
noncomputable def ty146 : TyRow := ⟨146, Try.t146, info146⟩
noncomputable def ty147 : TyRow := ⟨147, Try.t147, info147⟩
noncomputable def ty148 : TyRow := ⟨148, Try.t148, info148⟩
noncomputable def ty149 : TyRow := ⟨149, Try.t149, info149⟩
noncomputable def ty150 : TyRow := ⟨150, Try.t150, info150⟩
noncomputable def ty151 : TyRow := ⟨151, Try.t151, info151⟩
noncomputable def ty152 : TyRow := ⟨152, Try.t152, info152⟩
noncomputable def ty153 : TyRow := ⟨153, Try.t153, info153⟩
noncomputable def ty154 : TyRow := ⟨154, Try.t154, info154⟩
noncomputable def ty155 : TyRow := ⟨155, Try.t155, info155⟩
noncomputable def ty156 : TyRow := ⟨156, Try.t156, info156⟩
noncomputable def ty157 : TyRow := ⟨157, Try.t157, info157⟩
noncomputable def ty158 : TyRow := ⟨158, Try.t158, info158⟩
noncomputable def ty159 : TyRow := ⟨159, Try.t159, info159⟩
noncomputable def ty160 : TyRow := ⟨160, Try.t160, info160⟩
noncomputable def ty161 : TyRow := ⟨161, Try.t161, info161⟩
noncomputable def ty162 : TyRow := ⟨162, Try.t162, info162⟩
noncomputable def ty163 : TyRow := ⟨163, Try.t163, info163⟩
noncomputable def ty164 : TyRow := ⟨164, Try.t164, info164⟩
noncomputable def ty165 : TyRow := ⟨165, Try.t165, info165⟩
noncomputable def ty166 : TyRow := ⟨166, Try.t166, info166⟩
noncomputable def ty167 : TyRow := ⟨167, Try.t167, info167⟩
noncomputable def ty168 : TyRow := ⟨168, Try.t168, info168⟩
noncomputable def ty169 : TyRow := ⟨169, Try.t169, info169⟩
noncomputable def ty170 : TyRow := ⟨170, Try.t170, info170⟩
noncomputable def ty171 : TyRow := ⟨171, Try.t171, info171⟩
noncomputable def ty172 : TyRow := ⟨172, Try.t172, info172⟩
noncomputable def ty173 : TyRow := ⟨173, Try.t173, info173⟩
noncomputable def ty174 : TyRow := ⟨174, Try.t174, info174⟩
noncomputable def ty175 : TyRow := ⟨175, Try.t175, info175⟩
noncomputable def ty176 : TyRow := ⟨176, Try.t176, info176⟩
noncomputable def ty177 : TyRow := ⟨177, Try.t177, info177⟩
noncomputable def ty178 : TyRow := ⟨178, Try.t178, info178⟩
noncomputable def ty179 : TyRow := ⟨179, Try.t179, info179⟩
noncomputable def ty180 : TyRow := ⟨180, Try.t180, info180⟩
noncomputable def ty181 : TyRow := ⟨181, Try.t181, info181⟩
noncomputable def ty182 : TyRow := ⟨182, Try.t182, info182⟩
noncomputable def ty183 : TyRow := ⟨183, Try.t183, info183⟩
noncomputable def ty184 : TyRow := ⟨184, Try.t184, info184⟩
noncomputable def ty185 : TyRow := ⟨185, Try.t185, info185⟩
noncomputable def ty186 : TyRow := ⟨186, Try.t186, info186⟩
noncomputable def ty187 : TyRow := ⟨187, Try.t187, info187⟩
noncomputable def ty188 : TyRow := ⟨188, Try.t188, info188⟩
noncomputable def ty189 : TyRow := ⟨189, Try.t189, info189⟩
noncomputable def ty190 : TyRow := ⟨190, Try.t190, info190⟩
noncomputable def ty191 : TyRow := ⟨191, Try.t191, info191⟩
noncomputable def ty192 : TyRow := ⟨192, Try.t192, info192⟩
noncomputable def ty193 : TyRow := ⟨193, Try.t193, info193⟩
noncomputable def ty194 : TyRow := ⟨194, Try.t194, info194⟩
noncomputable def ty195 : TyRow := ⟨195, Try.t195, info195⟩
noncomputable def ty196 : TyRow := ⟨196, Try.t196, info196⟩
noncomputable def ty197 : TyRow := ⟨197, Try.t197, info197⟩
noncomputable def ty198 : TyRow := ⟨198, Try.t198, info198⟩
noncomputable def ty199 : TyRow := ⟨199, Try.t199, info199⟩
noncomputable def ty200 : TyRow := ⟨200, Try.t200, info200⟩
noncomputable def ty201 : TyRow := ⟨201, Try.t201, info201⟩
noncomputable def ty202 : TyRow := ⟨202, Try.t202, info202⟩
noncomputable def ty203 : TyRow := ⟨203, Try.t203, info203⟩
noncomputable def ty204 : TyRow := ⟨204, Try.t204, info204⟩
noncomputable def ty205 : TyRow := ⟨205, Try.t205, info205⟩
noncomputable def ty206 : TyRow := ⟨206, Try.t206, info206⟩
noncomputable def ty207 : TyRow := ⟨207, Try.t207, info207⟩
noncomputable def ty208 : TyRow := ⟨208, Try.t208, info208⟩
noncomputable def ty209 : TyRow := ⟨209, Try.t209, info209⟩
noncomputable def ty210 : TyRow := ⟨210, Try.t210, info210⟩
noncomputable def ty211 : TyRow := ⟨211, Try.t211, info211⟩
noncomputable def ty212 : TyRow := ⟨212, Try.t212, info212⟩
noncomputable def ty213 : TyRow := ⟨213, Try.t213, info213⟩
noncomputable def ty214 : TyRow := ⟨214, Try.t214, info214⟩
noncomputable def ty215 : TyRow := ⟨215, Try.t215, info215⟩
noncomputable def ty216 : TyRow := ⟨216, Try.t216, info216⟩
noncomputable def ty217 : TyRow := ⟨217, Try.t217, info217⟩
noncomputable def ty218 : TyRow := ⟨218, Try.t218, info218⟩
noncomputable def ty219 : TyRow := ⟨219, Try.t219, info219⟩
noncomputable def ty220 : TyRow := ⟨220, Try.t220, info220⟩
noncomputable def ty221 : TyRow := ⟨221, Try.t221, info221⟩
noncomputable def ty222 : TyRow := ⟨222, Try.t222, info222⟩
noncomputable def ty223 : TyRow := ⟨223, Try.t223, info223⟩
noncomputable def ty224 : TyRow := ⟨224, Try.t224, info224⟩
noncomputable def ty225 : TyRow := ⟨225, Try.t225, info225⟩
noncomputable def ty226 : TyRow := ⟨226, Try.t226, info226⟩
noncomputable def ty227 : TyRow := ⟨227, Try.t227, info227⟩
noncomputable def ty228 : TyRow := ⟨228, Try.t228, info228⟩
noncomputable def ty229 : TyRow := ⟨229, Try.t229, info229⟩
noncomputable def ty230 : TyRow := ⟨230, Try.t230, info230⟩
noncomputable def ty231 : TyRow := ⟨231, Try.t231, info231⟩
noncomputable def ty232 : TyRow := ⟨232, Try.t232, info232⟩
noncomputable def ty233 : TyRow := ⟨233, Try.t233, info233⟩
noncomputable def ty234 : TyRow := ⟨234, Try.t234, info234⟩
noncomputable def ty235 : TyRow := ⟨235, Try.t235, info235⟩
noncomputable def ty236 : TyRow := ⟨236, Try.t236, info236⟩
noncomputable def ty237 : TyRow := ⟨237, Try.t237, info237⟩
noncomputable def ty238 : TyRow := ⟨238, Try.t238, info238⟩
noncomputable def ty239 : TyRow := ⟨239, Try.t239, info239⟩
noncomputable def ty240 : TyRow := ⟨240, Try.t240, info240⟩
noncomputable def ty241 : TyRow := ⟨241, Try.t241, info241⟩
noncomputable def ty242 : TyRow := ⟨242, Try.t242, info242⟩
noncomputable def ty243 : TyRow := ⟨243, Try.t243, info243⟩
noncomputable def ty244 : TyRow := ⟨244, Try.t244, info244⟩
noncomputable def ty245 : TyRow := ⟨245, Try.t245, info245⟩
noncomputable def ty246 : TyRow := ⟨246, Try.t246, info246⟩
noncomputable def ty247 : TyRow := ⟨247, Try.t247, info247⟩
noncomputable def ty248 : TyRow := ⟨248, Try.t248, info248⟩
noncomputable def ty249 : TyRow := ⟨249, Try.t249, info249⟩
noncomputable def ty250 : TyRow := ⟨250, Try.t250, info250⟩
noncomputable def ty251 : TyRow := ⟨251, Try.t251, info251⟩
noncomputable def ty252 : TyRow := ⟨252, Try.t252, info252⟩
noncomputable def ty253 : TyRow := ⟨253, Try.t253, info253⟩
noncomputable def ty254 : TyRow := ⟨254, Try.t254, info254⟩

noncomputable def tyTree : BT TyRow := (.node (.node (.node (.node (.node (.node (.node (.node .leaf none (.node .leaf (some ty128) .leaf)) none (.node .leaf (some ty64) (.node .leaf (some ty192) .leaf))) none (.node (.node .leaf none (.node .leaf (some ty160) .leaf)) (some ty32) (.node .leaf (some ty96) (.node .leaf (some ty224) .leaf)))) none (.node (.node (.node .leaf none (.node .leaf (some ty144) .leaf)) none (.node .leaf (some ty80) (.node .leaf (some ty208) .leaf))) (some ty16) (.node (.node .leaf none (.node .leaf (some ty176) .leaf)) (some ty48) (.node .leaf (some ty112) (.node .leaf (some ty240) .leaf))))) none (.node (.node (.node (.node .leaf none (.node .leaf (some ty136) .leaf)) none (.node .leaf (some ty72) (.node .leaf (some ty200) .leaf))) none (.node (.node .leaf none (.node .leaf (some ty168) .leaf)) (some ty40) (.node .leaf (some ty104) (.node .leaf (some ty232) .leaf)))) (some ty8) (.node (.node (.node .leaf none (.node .leaf (some ty152) .leaf)) none (.node .leaf (some ty88) (.node .leaf (some ty216) .leaf))) (some ty24) (.node (.node .leaf none (.node .leaf (some ty184) .leaf)) (some ty56) (.node .leaf (some ty120) (.node .leaf (some ty248) .leaf)))))) none (.node (.node (.node (.node (.node .leaf none (.node .leaf (some ty132) .leaf)) none (.node .leaf (some ty68) (.node .leaf (some ty196) .leaf))) none (.node (.node .leaf none (.node .leaf (some ty164) .leaf)) (some ty36) (.node .leaf (some ty100) (.node .leaf (some ty228) .leaf)))) none (.node (.node (.node .leaf none (.node .leaf (some ty148) .leaf)) none (.node .leaf (some ty84) (.node .leaf (some ty212) .leaf))) (some ty20) (.node (.node .leaf none (.node .leaf (some ty180) .leaf)) (some ty52) (.node .leaf (some ty116) (.node .leaf (some ty244) .leaf))))) (some ty4) (.node (.node (.node (.node .leaf none (.node .leaf (some ty140) .leaf)) none (.node .leaf (some ty76) (.node .leaf (some ty204) .leaf))) none (.node (.node .leaf none (.node .leaf (some ty172) .leaf)) (some ty44) (.node .leaf (some ty108) (.node .leaf (some ty236) .leaf)))) (some ty12) (.node (.node (.node .leaf none (.node .leaf (some ty156) .leaf)) none (.node .leaf (some ty92) (.node .leaf (some ty220) .leaf))) (some ty28) (.node (.node .leaf none (.node .leaf (some ty188) .leaf)) (some ty60) (.node .leaf (some ty124) (.node .leaf (some ty252) .leaf))))))) none (.node (.node (.node (.node (.node (.node .leaf none (.node .leaf (some ty130) .leaf)) none (.node .leaf (some ty66) (.node .leaf (some ty194) .leaf))) none (.node (.node .leaf none (.node .leaf (some ty162) .leaf)) (some ty34) (.node .leaf (some ty98) (.node .leaf (some ty226) .leaf)))) none (.node (.node (.node .leaf none (.node .leaf (some ty146) .leaf)) none (.node .leaf (some ty82) (.node .leaf (some ty210) .leaf))) (some ty18) (.node (.node .leaf none (.node .leaf (some ty178) .leaf)) (some ty50) (.node .leaf (some ty114) (.node .leaf (some ty242) .leaf))))) none (.node (.node (.node (.node .leaf none (.node .leaf (some ty138) .leaf)) none (.node .leaf (some ty74) (.node .leaf (some ty202) .leaf))) none (.node (.node .leaf none (.node .leaf (some ty170) .leaf)) (some ty42) (.node .leaf (some ty106) (.node .leaf (some ty234) .leaf)))) (some ty10) (.node (.node (.node .leaf none (.node .leaf (some ty154) .leaf)) none (.node .leaf (some ty90) (.node .leaf (some ty218) .leaf))) (some ty26) (.node (.node .leaf none (.node .leaf (some ty186) .leaf)) (some ty58) (.node .leaf (some ty122) (.node .leaf (some ty250) .leaf)))))) (some ty2) (.node (.node (.node (.node (.node .leaf none (.node .leaf (some ty134) .leaf)) none (.node .leaf (some ty70) (.node .leaf (some ty198) .leaf))) none (.node (.node .leaf none (.node .leaf (some ty166) .leaf)) (some ty38) (.node .leaf (some ty102) (.node .leaf (some ty230) .leaf)))) none (.node (.node (.node .leaf none (.node .leaf (some ty150) .leaf)) none (.node .leaf (some ty86) (.node .leaf (some ty214) .leaf))) (some ty22) (.node (.node .leaf none (.node .leaf (some ty182) .leaf)) (some ty54) (.node .leaf (some ty118) (.node .leaf (some ty246) .leaf))))) (some ty6) (.node (.node (.node (.node .leaf none (.node .leaf (some ty142) .leaf)) none (.node .leaf (some ty78) (.node .leaf (some ty206) .leaf))) none (.node (.node .leaf none (.node .leaf (some ty174) .leaf)) (some ty46) (.node .leaf (some ty110) (.node .leaf (some ty238) .leaf)))) (some ty14) (.node (.node (.node .leaf none (.node .leaf (some ty158) .leaf)) none (.node .leaf (some ty94) (.node .leaf (some ty222) .leaf))) (some ty30) (.node (.node .leaf none (.node .leaf (some ty190) .leaf)) (some ty62) (.node .leaf (some ty126) (.node .leaf (some ty254) .leaf)))))))) (some ty0) (.node (.node (.node (.node (.node (.node (.node .leaf none (.node .leaf (some ty129) .leaf)) none (.node .leaf (some ty65) (.node .leaf (some ty193) .leaf))) none (.node (.node .leaf none (.node .leaf (some ty161) .leaf)) (some ty33) (.node .leaf (some ty97) (.node .leaf (some ty225) .leaf)))) none (.node (.node (.node .leaf none (.node .leaf (some ty145) .leaf)) none (.node .leaf (some ty81) (.node .leaf (some ty209) .leaf))) (some ty17) (.node (.node .leaf none (.node .leaf (some ty177) .leaf)) (some ty49) (.node .leaf (some ty113) (.node .leaf (some ty241) .leaf))))) none (.node (.node (.node (.node .leaf none (.node .leaf (some ty137) .leaf)) none (.node .leaf (some ty73) (.node .leaf (some ty201) .leaf))) none (.node (.node .leaf none (.node .leaf (some ty169) .leaf)) (some ty41) (.node .leaf (some ty105) (.node .leaf (some ty233) .leaf)))) (some ty9) (.node (.node (.node .leaf none (.node .leaf (some ty153) .leaf)) none (.node .leaf (some ty89) (.node .leaf (some ty217) .leaf))) (some ty25) (.node (.node .leaf none (.node .leaf (some ty185) .leaf)) (some ty57) (.node .leaf (some ty121) (.node .leaf (some ty249) .leaf)))))) none (.node (.node (.node (.node (.node .leaf none (.node .leaf (some ty133) .leaf)) none (.node .leaf (some ty69) (.node .leaf (some ty197) .leaf))) none (.node (.node .leaf none (.node .leaf (some ty165) .leaf)) (some ty37) (.node .leaf (some ty101) (.node .leaf (some ty229) .leaf)))) none (.node (.node (.node .leaf none (.node .leaf (some ty149) .leaf)) none (.node .leaf (some ty85) (.node .leaf (some ty213) .leaf))) (some ty21) (.node (.node .leaf none (.node .leaf (some ty181) .leaf)) (some ty53) (.node .leaf (some ty117) (.node .leaf (some ty245) .leaf))))) (some ty5) (.node (.node (.node (.node .leaf none (.node .leaf (some ty141) .leaf)) none (.node .leaf (some ty77) (.node .leaf (some ty205) .leaf))) none (.node (.node .leaf none (.node .leaf (some ty173) .leaf)) (some ty45) (.node .leaf (some ty109) (.node .leaf (some ty237) .leaf)))) (some ty13) (.node (.node (.node .leaf none (.node .leaf (some ty157) .leaf)) none (.node .leaf (some ty93) (.node .leaf (some ty221) .leaf))) (some ty29) (.node (.node .leaf none (.node .leaf (some ty189) .leaf)) (some ty61) (.node .leaf (some ty125) (.node .leaf (some ty253) .leaf))))))) (some ty1) (.node (.node (.node (.node (.node (.node .leaf none (.node .leaf (some ty131) .leaf)) none (.node .leaf (some ty67) (.node .leaf (some ty195) .leaf))) none (.node (.node .leaf none (.node .leaf (some ty163) .leaf)) (some ty35) (.node .leaf (some ty99) (.node .leaf (some ty227) .leaf)))) none (.node (.node (.node .leaf none (.node .leaf (some ty147) .leaf)) none (.node .leaf (some ty83) (.node .leaf (some ty211) .leaf))) (some ty19) (.node (.node .leaf none (.node .leaf (some ty179) .leaf)) (some ty51) (.node .leaf (some ty115) (.node .leaf (some ty243) .leaf))))) none (.node (.node (.node (.node .leaf none (.node .leaf (some ty139) .leaf)) none (.node .leaf (some ty75) (.node .leaf (some ty203) .leaf))) none (.node (.node .leaf none (.node .leaf (some ty171) .leaf)) (some ty43) (.node .leaf (some ty107) (.node .leaf (some ty235) .leaf)))) (some ty11) (.node (.node (.node .leaf none (.node .leaf (some ty155) .leaf)) none (.node .leaf (some ty91) (.node .leaf (some ty219) .leaf))) (some ty27) (.node (.node .leaf none (.node .leaf (some ty187) .leaf)) (some ty59) (.node .leaf (some ty123) (.node .leaf (some ty251) .leaf)))))) (some ty3) (.node (.node (.node (.node (.node .leaf none (.node .leaf (some ty135) .leaf)) none (.node .leaf (some ty71) (.node .leaf (some ty199) .leaf))) none (.node (.node .leaf none (.node .leaf (some ty167) .leaf)) (some ty39) (.node .leaf (some ty103) (.node .leaf (some ty231) .leaf)))) none (.node (.node (.node .leaf none (.node .leaf (some ty151) .leaf)) none (.node .leaf (some ty87) (.node .leaf (some ty215) .leaf))) (some ty23) (.node (.node .leaf none (.node .leaf (some ty183) .leaf)) (some ty55) (.node .leaf (some ty119) (.node .leaf (some ty247) .leaf))))) (some ty7) (.node (.node (.node (.node .leaf none (.node .leaf (some ty143) .leaf)) none (.node .leaf (some ty79) (.node .leaf (some ty207) .leaf))) none (.node (.node .leaf none (.node .leaf (some ty175) .leaf)) (some ty47) (.node .leaf (some ty111) (.node .leaf (some ty239) .leaf)))) (some ty15) (.node (.node (.node .leaf none (.node .leaf (some ty159) .leaf)) none (.node .leaf (some ty95) (.node .leaf (some ty223) .leaf))) (some ty31) (.node (.node .leaf none (.node .leaf (some ty191) .leaf)) (some ty63) (.node .leaf (some ty127) .leaf))))))))

noncomputable def tyAt (t : TypeId) : Option TypeInfo :=
  match tyTree.get (bits t t) with
  | some r => match Nat.beq r.num t with
    | true => some r.info
    | false => none
  | none => none
theorem tyAt_ok (t : TypeId) (i : TypeInfo) (h : tyAt t = some i) : Try.prog.info? t = some i := by
  unfold tyAt at h
  split at h
  · rename_i r _
    split at h
    · rename_i hb
      cases h
      rw [← Nat.eq_of_beq_eq_true hb]
      exact r.at'
    · cases h
  · cases h

theorem stat2 : statAll (btAll 2) (Try.f2.body.getD .skip) = true := by kernel_rfl
theorem stat3 : statAll (btAll 3) (Try.f3.body.getD .skip) = true := by kernel_rfl
theorem stat4 : statAll (btAll 4) (Try.f4.body.getD .skip) = true := by kernel_rfl
theorem stat5 : statAll (btAll 5) (Try.f5.body.getD .skip) = true := by kernel_rfl
theorem stat6 : statAll (btAll 6) (Try.f6.body.getD .skip) = true := by kernel_rfl
theorem stat7 : statAll (btAll 7) (Try.f7.body.getD .skip) = true := by kernel_rfl
theorem stat8 : statAll (btAll 8) (Try.f8.body.getD .skip) = true := by kernel_rfl
theorem stat9 : statAll (btAll 9) (Try.f9.body.getD .skip) = true := by kernel_rfl
theorem stat10 : statAll (btAll 10) (Try.f10.body.getD .skip) = true := by kernel_rfl
theorem stat11 : statAll (btAll 11) (Try.f11.body.getD .skip) = true := by kernel_rfl
theorem stat12 : statAll (btAll 12) (Try.f12.body.getD .skip) = true := by kernel_rfl
theorem stat13 : statAll (btAll 13) (Try.f13.body.getD .skip) = true := by kernel_rfl
theorem stat14 : statAll (btAll 14) (Try.f14.body.getD .skip) = true := by kernel_rfl
theorem stat15 : statAll (btAll 15) (Try.f15.body.getD .skip) = true := by kernel_rfl
theorem stat16 : statAll (btAll 16) (Try.f16.body.getD .skip) = true := by kernel_rfl
theorem stat17 : statAll (btAll 17) (Try.f17.body.getD .skip) = true := by kernel_rfl
theorem stat18 : statAll (btAll 18) (Try.f18.body.getD .skip) = true := by kernel_rfl
theorem stat19 : statAll (btAll 19) (Try.f19.body.getD .skip) = true := by kernel_rfl
theorem stat20 : statAll (btAll 20) (Try.f20.body.getD .skip) = true := by kernel_rfl
theorem stat21 : statAll (btAll 21) (Try.f21.body.getD .skip) = true := by kernel_rfl
theorem stat22 : statAll (btAll 22) (Try.f22.body.getD .skip) = true := by kernel_rfl
theorem stat23 : statAll (btAll 23) (Try.f23.body.getD .skip) = true := by kernel_rfl
theorem stat24 : statAll (btAll 24) (Try.f24.body.getD .skip) = true := by kernel_rfl
theorem stat25 : statAll (btAll 25) (Try.f25.body.getD .skip) = true := by kernel_rfl
theorem stat26 : statAll (btAll 26) (Try.f26.body.getD .skip) = true := by kernel_rfl
theorem stat27 : statAll (btAll 27) (Try.f27.body.getD .skip) = true := by kernel_rfl
theorem stat28 : statAll (btAll 28) (Try.f28.body.getD .skip) = true := by kernel_rfl
theorem stat29 : statAll (btAll 29) (Try.f29.body.getD .skip) = true := by kernel_rfl
theorem stat30 : statAll (btAll 30) (Try.f30.body.getD .skip) = true := by kernel_rfl
theorem stat31 : statAll (btAll 31) (Try.f31.body.getD .skip) = true := by kernel_rfl
theorem stat32 : statAll (btAll 32) (Try.f32.body.getD .skip) = true := by kernel_rfl
theorem stat33 : statAll (btAll 33) (Try.f33.body.getD .skip) = true := by kernel_rfl
theorem stat34 : statAll (btAll 34) (Try.f34.body.getD .skip) = true := by kernel_rfl
theorem stat35 : statAll (btAll 35) (Try.f35.body.getD .skip) = true := by kernel_rfl
theorem stat36 : statAll (btAll 36) (Try.f36.body.getD .skip) = true := by kernel_rfl
theorem stat37 : statAll (btAll 37) (Try.f37.body.getD .skip) = true := by kernel_rfl
theorem stat38 : statAll (btAll 38) (Try.f38.body.getD .skip) = true := by kernel_rfl
theorem stat39 : statAll (btAll 39) (Try.f39.body.getD .skip) = true := by kernel_rfl
theorem stat40 : statAll (btAll 40) (Try.f40.body.getD .skip) = true := by kernel_rfl
theorem stat41 : statAll (btAll 41) (Try.f41.body.getD .skip) = true := by kernel_rfl
theorem stat42 : statAll (btAll 42) (Try.f42.body.getD .skip) = true := by kernel_rfl
theorem stat43 : statAll (btAll 43) (Try.f43.body.getD .skip) = true := by kernel_rfl
theorem stat44 : statAll (btAll 44) (Try.f44.body.getD .skip) = true := by kernel_rfl
theorem stat45 : statAll (btAll 45) (Try.f45.body.getD .skip) = true := by kernel_rfl
theorem stat46 : statAll (btAll 46) (Try.f46.body.getD .skip) = true := by kernel_rfl
theorem stat47 : statAll (btAll 47) (Try.f47.body.getD .skip) = true := by kernel_rfl
theorem stat48 : statAll (btAll 48) (Try.f48.body.getD .skip) = true := by kernel_rfl
theorem stat49 : statAll (btAll 49) (Try.f49.body.getD .skip) = true := by kernel_rfl
theorem stat50 : statAll (btAll 50) (Try.f50.body.getD .skip) = true := by kernel_rfl
theorem stat51 : statAll (btAll 51) (Try.f51.body.getD .skip) = true := by kernel_rfl
theorem stat52 : statAll (btAll 52) (Try.f52.body.getD .skip) = true := by kernel_rfl
theorem stat53 : statAll (btAll 53) (Try.f53.body.getD .skip) = true := by kernel_rfl
theorem stat54 : statAll (btAll 54) (Try.f54.body.getD .skip) = true := by kernel_rfl
theorem stat55 : statAll (btAll 55) (Try.f55.body.getD .skip) = true := by kernel_rfl
theorem stat56 : statAll (btAll 56) (Try.f56.body.getD .skip) = true := by kernel_rfl
theorem stat57 : statAll (btAll 57) (Try.f57.body.getD .skip) = true := by kernel_rfl
theorem stat58 : statAll (btAll 58) (Try.f58.body.getD .skip) = true := by kernel_rfl
theorem stat59 : statAll (btAll 59) (Try.f59.body.getD .skip) = true := by kernel_rfl
theorem stat60 : statAll (btAll 60) (Try.f60.body.getD .skip) = true := by kernel_rfl
theorem stat61 : statAll (btAll 61) (Try.f61.body.getD .skip) = true := by kernel_rfl
theorem stat62 : statAll (btAll 62) (Try.f62.body.getD .skip) = true := by kernel_rfl
theorem stat63 : statAll (btAll 63) (Try.f63.body.getD .skip) = true := by kernel_rfl
theorem stat64 : statAll (btAll 64) (Try.f64.body.getD .skip) = true := by kernel_rfl
theorem stat65 : statAll (btAll 65) (Try.f65.body.getD .skip) = true := by kernel_rfl
theorem stat66 : statAll (btAll 66) (Try.f66.body.getD .skip) = true := by kernel_rfl
theorem stat67 : statAll (btAll 67) (Try.f67.body.getD .skip) = true := by kernel_rfl
theorem stat68 : statAll (btAll 68) (Try.f68.body.getD .skip) = true := by kernel_rfl
theorem stat69 : statAll (btAll 69) (Try.f69.body.getD .skip) = true := by kernel_rfl
theorem stat70 : statAll (btAll 70) (Try.f70.body.getD .skip) = true := by kernel_rfl
theorem stat71 : statAll (btAll 71) (Try.f71.body.getD .skip) = true := by kernel_rfl
theorem stat72 : statAll (btAll 72) (Try.f72.body.getD .skip) = true := by kernel_rfl
theorem stat73 : statAll (btAll 73) (Try.f73.body.getD .skip) = true := by kernel_rfl
theorem stat74 : statAll (btAll 74) (Try.f74.body.getD .skip) = true := by kernel_rfl
theorem stat75 : statAll (btAll 75) (Try.f75.body.getD .skip) = true := by kernel_rfl
theorem stat76 : statAll (btAll 76) (Try.f76.body.getD .skip) = true := by kernel_rfl
theorem stat77 : statAll (btAll 77) (Try.f77.body.getD .skip) = true := by kernel_rfl
theorem stat78 : statAll (btAll 78) (Try.f78.body.getD .skip) = true := by kernel_rfl
theorem stat79 : statAll (btAll 79) (Try.f79.body.getD .skip) = true := by kernel_rfl
theorem stat80 : statAll (btAll 80) (Try.f80.body.getD .skip) = true := by kernel_rfl
theorem stat81 : statAll (btAll 81) (Try.f81.body.getD .skip) = true := by kernel_rfl
theorem stat82 : statAll (btAll 82) (Try.f82.body.getD .skip) = true := by kernel_rfl
theorem stat83 : statAll (btAll 83) (Try.f83.body.getD .skip) = true := by kernel_rfl
theorem stat84 : statAll (btAll 84) (Try.f84.body.getD .skip) = true := by kernel_rfl
theorem stat85 : statAll (btAll 85) (Try.f85.body.getD .skip) = true := by kernel_rfl
theorem stat86 : statAll (btAll 86) (Try.f86.body.getD .skip) = true := by kernel_rfl
theorem stat87 : statAll (btAll 87) (Try.f87.body.getD .skip) = true := by kernel_rfl
theorem stat88 : statAll (btAll 88) (Try.f88.body.getD .skip) = true := by kernel_rfl
theorem stat89 : statAll (btAll 89) (Try.f89.body.getD .skip) = true := by kernel_rfl
theorem stat90 : statAll (btAll 90) (Try.f90.body.getD .skip) = true := by kernel_rfl
theorem stat91 : statAll (btAll 91) (Try.f91.body.getD .skip) = true := by kernel_rfl
theorem stat92 : statAll (btAll 92) (Try.f92.body.getD .skip) = true := by kernel_rfl
theorem stat93 : statAll (btAll 93) (Try.f93.body.getD .skip) = true := by kernel_rfl
theorem stat94 : statAll (btAll 94) (Try.f94.body.getD .skip) = true := by kernel_rfl
theorem stat95 : statAll (btAll 95) (Try.f95.body.getD .skip) = true := by kernel_rfl
theorem stat96 : statAll (btAll 96) (Try.f96.body.getD .skip) = true := by kernel_rfl
theorem stat97 : statAll (btAll 97) (Try.f97.body.getD .skip) = true := by kernel_rfl
theorem stat98 : statAll (btAll 98) (Try.f98.body.getD .skip) = true := by kernel_rfl
theorem stat99 : statAll (btAll 99) (Try.f99.body.getD .skip) = true := by kernel_rfl
theorem stat100 : statAll (btAll 100) (Try.f100.body.getD .skip) = true := by kernel_rfl
theorem stat101 : statAll (btAll 101) (Try.f101.body.getD .skip) = true := by kernel_rfl
theorem stat102 : statAll (btAll 102) (Try.f102.body.getD .skip) = true := by kernel_rfl
theorem stat103 : statAll (btAll 103) (Try.f103.body.getD .skip) = true := by kernel_rfl
theorem stat104 : statAll (btAll 104) (Try.f104.body.getD .skip) = true := by kernel_rfl
theorem stat105 : statAll (btAll 105) (Try.f105.body.getD .skip) = true := by kernel_rfl
theorem stat106 : statAll (btAll 106) (Try.f106.body.getD .skip) = true := by kernel_rfl
theorem stat107 : statAll (btAll 107) (Try.f107.body.getD .skip) = true := by kernel_rfl
theorem stat108 : statAll (btAll 108) (Try.f108.body.getD .skip) = true := by kernel_rfl
theorem stat110 : statAll (btAll 110) (Try.f110.body.getD .skip) = true := by kernel_rfl
theorem stat111 : statAll (btAll 111) (Try.f111.body.getD .skip) = true := by kernel_rfl
theorem stat112 : statAll (btAll 112) (Try.f112.body.getD .skip) = true := by kernel_rfl
theorem stat113 : statAll (btAll 113) (Try.f113.body.getD .skip) = true := by kernel_rfl
theorem stat114 : statAll (btAll 114) (Try.f114.body.getD .skip) = true := by kernel_rfl
theorem stat115 : statAll (btAll 115) (Try.f115.body.getD .skip) = true := by kernel_rfl
theorem stat116 : statAll (btAll 116) (Try.f116.body.getD .skip) = true := by kernel_rfl
theorem stat117 : statAll (btAll 117) (Try.f117.body.getD .skip) = true := by kernel_rfl
theorem stat118 : statAll (btAll 118) (Try.f118.body.getD .skip) = true := by kernel_rfl
theorem stat119 : statAll (btAll 119) (Try.f119.body.getD .skip) = true := by kernel_rfl
theorem stat120 : statAll (btAll 120) (Try.f120.body.getD .skip) = true := by kernel_rfl
theorem stat121 : statAll (btAll 121) (Try.f121.body.getD .skip) = true := by kernel_rfl
theorem stat122 : statAll (btAll 122) (Try.f122.body.getD .skip) = true := by kernel_rfl
theorem stat123 : statAll (btAll 123) (Try.f123.body.getD .skip) = true := by kernel_rfl
theorem stat124 : statAll (btAll 124) (Try.f124.body.getD .skip) = true := by kernel_rfl
theorem stat125 : statAll (btAll 125) (Try.f125.body.getD .skip) = true := by kernel_rfl
theorem stat126 : statAll (btAll 126) (Try.f126.body.getD .skip) = true := by kernel_rfl
theorem stat127 : statAll (btAll 127) (Try.f127.body.getD .skip) = true := by kernel_rfl
theorem stat128 : statAll (btAll 128) (Try.f128.body.getD .skip) = true := by kernel_rfl
theorem stat129 : statAll (btAll 129) (Try.f129.body.getD .skip) = true := by kernel_rfl
theorem stat130 : statAll (btAll 130) (Try.f130.body.getD .skip) = true := by kernel_rfl
theorem stat131 : statAll (btAll 131) (Try.f131.body.getD .skip) = true := by kernel_rfl
theorem stat132 : statAll (btAll 132) (Try.f132.body.getD .skip) = true := by kernel_rfl
theorem stat133 : statAll (btAll 133) (Try.f133.body.getD .skip) = true := by kernel_rfl
theorem stat134 : statAll (btAll 134) (Try.f134.body.getD .skip) = true := by kernel_rfl
theorem stat135 : statAll (btAll 135) (Try.f135.body.getD .skip) = true := by kernel_rfl
theorem stat136 : statAll (btAll 136) (Try.f136.body.getD .skip) = true := by kernel_rfl
theorem stat137 : statAll (btAll 137) (Try.f137.body.getD .skip) = true := by kernel_rfl
theorem stat138 : statAll (btAll 138) (Try.f138.body.getD .skip) = true := by kernel_rfl
theorem stat139 : statAll (btAll 139) (Try.f139.body.getD .skip) = true := by kernel_rfl
theorem stat140 : statAll (btAll 140) (Try.f140.body.getD .skip) = true := by kernel_rfl
theorem stat141 : statAll (btAll 141) (Try.f141.body.getD .skip) = true := by kernel_rfl
theorem stat144 : statAll (btAll 144) (Try.f144.body.getD .skip) = true := by kernel_rfl
theorem stat145 : statAll (btAll 145) (Try.f145.body.getD .skip) = true := by kernel_rfl
theorem stat146 : statAll (btAll 146) (Try.f146.body.getD .skip) = true := by kernel_rfl
theorem stat147 : statAll (btAll 147) (Try.f147.body.getD .skip) = true := by kernel_rfl
theorem stat148 : statAll (btAll 148) (Try.f148.body.getD .skip) = true := by kernel_rfl
theorem stat149 : statAll (btAll 149) (Try.f149.body.getD .skip) = true := by kernel_rfl
theorem stat150 : statAll (btAll 150) (Try.f150.body.getD .skip) = true := by kernel_rfl
theorem stat151 : statAll (btAll 151) (Try.f151.body.getD .skip) = true := by kernel_rfl
theorem stat152 : statAll (btAll 152) (Try.f152.body.getD .skip) = true := by kernel_rfl
theorem stat153 : statAll (btAll 153) (Try.f153.body.getD .skip) = true := by kernel_rfl
theorem stat154 : statAll (btAll 154) (Try.f154.body.getD .skip) = true := by kernel_rfl
theorem stat155 : statAll (btAll 155) (Try.f155.body.getD .skip) = true := by kernel_rfl
theorem stat156 : statAll (btAll 156) (Try.f156.body.getD .skip) = true := by kernel_rfl
theorem stat157 : statAll (btAll 157) (Try.f157.body.getD .skip) = true := by kernel_rfl
theorem stat158 : statAll (btAll 158) (Try.f158.body.getD .skip) = true := by kernel_rfl
noncomputable def row2 : FnRow Try.prog btAll := ⟨2, Try.f2, Try.f2.body.getD .skip, Try.func2, by kernel_rfl, stat2, cP_ok.bodies 2 body2⟩
noncomputable def row3 : FnRow Try.prog btAll := ⟨3, Try.f3, Try.f3.body.getD .skip, Try.func3, by kernel_rfl, stat3, cP_ok.bodies 3 body3⟩
noncomputable def row4 : FnRow Try.prog btAll := ⟨4, Try.f4, Try.f4.body.getD .skip, Try.func4, by kernel_rfl, stat4, cP_ok.bodies 4 body4⟩
noncomputable def row5 : FnRow Try.prog btAll := ⟨5, Try.f5, Try.f5.body.getD .skip, Try.func5, by kernel_rfl, stat5, cP_ok.bodies 5 body5⟩
noncomputable def row6 : FnRow Try.prog btAll := ⟨6, Try.f6, Try.f6.body.getD .skip, Try.func6, by kernel_rfl, stat6, cP_ok.bodies 6 body6⟩
noncomputable def row7 : FnRow Try.prog btAll := ⟨7, Try.f7, Try.f7.body.getD .skip, Try.func7, by kernel_rfl, stat7, cP_ok.bodies 7 body7⟩
noncomputable def row8 : FnRow Try.prog btAll := ⟨8, Try.f8, Try.f8.body.getD .skip, Try.func8, by kernel_rfl, stat8, cP_ok.bodies 8 body8⟩
noncomputable def row9 : FnRow Try.prog btAll := ⟨9, Try.f9, Try.f9.body.getD .skip, Try.func9, by kernel_rfl, stat9, cP_ok.bodies 9 body9⟩
noncomputable def row10 : FnRow Try.prog btAll := ⟨10, Try.f10, Try.f10.body.getD .skip, Try.func10, by kernel_rfl, stat10, cP_ok.bodies 10 body10⟩
noncomputable def row11 : FnRow Try.prog btAll := ⟨11, Try.f11, Try.f11.body.getD .skip, Try.func11, by kernel_rfl, stat11, cP_ok.bodies 11 body11⟩
noncomputable def row12 : FnRow Try.prog btAll := ⟨12, Try.f12, Try.f12.body.getD .skip, Try.func12, by kernel_rfl, stat12, cP_ok.bodies 12 body12⟩
noncomputable def row13 : FnRow Try.prog btAll := ⟨13, Try.f13, Try.f13.body.getD .skip, Try.func13, by kernel_rfl, stat13, cP_ok.bodies 13 body13⟩
noncomputable def row14 : FnRow Try.prog btAll := ⟨14, Try.f14, Try.f14.body.getD .skip, Try.func14, by kernel_rfl, stat14, cP_ok.bodies 14 body14⟩
noncomputable def row15 : FnRow Try.prog btAll := ⟨15, Try.f15, Try.f15.body.getD .skip, Try.func15, by kernel_rfl, stat15, cP_ok.bodies 15 body15⟩
noncomputable def row16 : FnRow Try.prog btAll := ⟨16, Try.f16, Try.f16.body.getD .skip, Try.func16, by kernel_rfl, stat16, cP_ok.bodies 16 body16⟩
noncomputable def row17 : FnRow Try.prog btAll := ⟨17, Try.f17, Try.f17.body.getD .skip, Try.func17, by kernel_rfl, stat17, cP_ok.bodies 17 body17⟩
noncomputable def row18 : FnRow Try.prog btAll := ⟨18, Try.f18, Try.f18.body.getD .skip, Try.func18, by kernel_rfl, stat18, cP_ok.bodies 18 body18⟩
noncomputable def row19 : FnRow Try.prog btAll := ⟨19, Try.f19, Try.f19.body.getD .skip, Try.func19, by kernel_rfl, stat19, cP_ok.bodies 19 body19⟩
noncomputable def row20 : FnRow Try.prog btAll := ⟨20, Try.f20, Try.f20.body.getD .skip, Try.func20, by kernel_rfl, stat20, cP_ok.bodies 20 body20⟩
noncomputable def row21 : FnRow Try.prog btAll := ⟨21, Try.f21, Try.f21.body.getD .skip, Try.func21, by kernel_rfl, stat21, cP_ok.bodies 21 body21⟩
noncomputable def row22 : FnRow Try.prog btAll := ⟨22, Try.f22, Try.f22.body.getD .skip, Try.func22, by kernel_rfl, stat22, cP_ok.bodies 22 body22⟩
noncomputable def row23 : FnRow Try.prog btAll := ⟨23, Try.f23, Try.f23.body.getD .skip, Try.func23, by kernel_rfl, stat23, cP_ok.bodies 23 body23⟩
noncomputable def row24 : FnRow Try.prog btAll := ⟨24, Try.f24, Try.f24.body.getD .skip, Try.func24, by kernel_rfl, stat24, cP_ok.bodies 24 body24⟩
noncomputable def row25 : FnRow Try.prog btAll := ⟨25, Try.f25, Try.f25.body.getD .skip, Try.func25, by kernel_rfl, stat25, cP_ok.bodies 25 body25⟩
noncomputable def row26 : FnRow Try.prog btAll := ⟨26, Try.f26, Try.f26.body.getD .skip, Try.func26, by kernel_rfl, stat26, cP_ok.bodies 26 body26⟩
noncomputable def row27 : FnRow Try.prog btAll := ⟨27, Try.f27, Try.f27.body.getD .skip, Try.func27, by kernel_rfl, stat27, cP_ok.bodies 27 body27⟩
noncomputable def row28 : FnRow Try.prog btAll := ⟨28, Try.f28, Try.f28.body.getD .skip, Try.func28, by kernel_rfl, stat28, cP_ok.bodies 28 body28⟩
noncomputable def row29 : FnRow Try.prog btAll := ⟨29, Try.f29, Try.f29.body.getD .skip, Try.func29, by kernel_rfl, stat29, cP_ok.bodies 29 body29⟩
noncomputable def row30 : FnRow Try.prog btAll := ⟨30, Try.f30, Try.f30.body.getD .skip, Try.func30, by kernel_rfl, stat30, cP_ok.bodies 30 body30⟩
noncomputable def row31 : FnRow Try.prog btAll := ⟨31, Try.f31, Try.f31.body.getD .skip, Try.func31, by kernel_rfl, stat31, cP_ok.bodies 31 body31⟩
noncomputable def row32 : FnRow Try.prog btAll := ⟨32, Try.f32, Try.f32.body.getD .skip, Try.func32, by kernel_rfl, stat32, cP_ok.bodies 32 body32⟩
noncomputable def row33 : FnRow Try.prog btAll := ⟨33, Try.f33, Try.f33.body.getD .skip, Try.func33, by kernel_rfl, stat33, cP_ok.bodies 33 body33⟩
noncomputable def row34 : FnRow Try.prog btAll := ⟨34, Try.f34, Try.f34.body.getD .skip, Try.func34, by kernel_rfl, stat34, cP_ok.bodies 34 body34⟩
noncomputable def row35 : FnRow Try.prog btAll := ⟨35, Try.f35, Try.f35.body.getD .skip, Try.func35, by kernel_rfl, stat35, cP_ok.bodies 35 body35⟩
noncomputable def row36 : FnRow Try.prog btAll := ⟨36, Try.f36, Try.f36.body.getD .skip, Try.func36, by kernel_rfl, stat36, cP_ok.bodies 36 body36⟩
noncomputable def row37 : FnRow Try.prog btAll := ⟨37, Try.f37, Try.f37.body.getD .skip, Try.func37, by kernel_rfl, stat37, cP_ok.bodies 37 body37⟩
noncomputable def row38 : FnRow Try.prog btAll := ⟨38, Try.f38, Try.f38.body.getD .skip, Try.func38, by kernel_rfl, stat38, cP_ok.bodies 38 body38⟩
noncomputable def row39 : FnRow Try.prog btAll := ⟨39, Try.f39, Try.f39.body.getD .skip, Try.func39, by kernel_rfl, stat39, cP_ok.bodies 39 body39⟩
noncomputable def row40 : FnRow Try.prog btAll := ⟨40, Try.f40, Try.f40.body.getD .skip, Try.func40, by kernel_rfl, stat40, cP_ok.bodies 40 body40⟩
noncomputable def row41 : FnRow Try.prog btAll := ⟨41, Try.f41, Try.f41.body.getD .skip, Try.func41, by kernel_rfl, stat41, cP_ok.bodies 41 body41⟩
noncomputable def row42 : FnRow Try.prog btAll := ⟨42, Try.f42, Try.f42.body.getD .skip, Try.func42, by kernel_rfl, stat42, cP_ok.bodies 42 body42⟩
noncomputable def row43 : FnRow Try.prog btAll := ⟨43, Try.f43, Try.f43.body.getD .skip, Try.func43, by kernel_rfl, stat43, cP_ok.bodies 43 body43⟩
noncomputable def row44 : FnRow Try.prog btAll := ⟨44, Try.f44, Try.f44.body.getD .skip, Try.func44, by kernel_rfl, stat44, cP_ok.bodies 44 body44⟩
noncomputable def row45 : FnRow Try.prog btAll := ⟨45, Try.f45, Try.f45.body.getD .skip, Try.func45, by kernel_rfl, stat45, cP_ok.bodies 45 body45⟩
noncomputable def row46 : FnRow Try.prog btAll := ⟨46, Try.f46, Try.f46.body.getD .skip, Try.func46, by kernel_rfl, stat46, cP_ok.bodies 46 body46⟩
noncomputable def row47 : FnRow Try.prog btAll := ⟨47, Try.f47, Try.f47.body.getD .skip, Try.func47, by kernel_rfl, stat47, cP_ok.bodies 47 body47⟩
noncomputable def row48 : FnRow Try.prog btAll := ⟨48, Try.f48, Try.f48.body.getD .skip, Try.func48, by kernel_rfl, stat48, cP_ok.bodies 48 body48⟩
noncomputable def row49 : FnRow Try.prog btAll := ⟨49, Try.f49, Try.f49.body.getD .skip, Try.func49, by kernel_rfl, stat49, cP_ok.bodies 49 body49⟩
noncomputable def row50 : FnRow Try.prog btAll := ⟨50, Try.f50, Try.f50.body.getD .skip, Try.func50, by kernel_rfl, stat50, cP_ok.bodies 50 body50⟩
noncomputable def row51 : FnRow Try.prog btAll := ⟨51, Try.f51, Try.f51.body.getD .skip, Try.func51, by kernel_rfl, stat51, cP_ok.bodies 51 body51⟩
noncomputable def row52 : FnRow Try.prog btAll := ⟨52, Try.f52, Try.f52.body.getD .skip, Try.func52, by kernel_rfl, stat52, cP_ok.bodies 52 body52⟩
noncomputable def row53 : FnRow Try.prog btAll := ⟨53, Try.f53, Try.f53.body.getD .skip, Try.func53, by kernel_rfl, stat53, cP_ok.bodies 53 body53⟩
noncomputable def row54 : FnRow Try.prog btAll := ⟨54, Try.f54, Try.f54.body.getD .skip, Try.func54, by kernel_rfl, stat54, cP_ok.bodies 54 body54⟩
noncomputable def row55 : FnRow Try.prog btAll := ⟨55, Try.f55, Try.f55.body.getD .skip, Try.func55, by kernel_rfl, stat55, cP_ok.bodies 55 body55⟩
noncomputable def row56 : FnRow Try.prog btAll := ⟨56, Try.f56, Try.f56.body.getD .skip, Try.func56, by kernel_rfl, stat56, cP_ok.bodies 56 body56⟩
noncomputable def row57 : FnRow Try.prog btAll := ⟨57, Try.f57, Try.f57.body.getD .skip, Try.func57, by kernel_rfl, stat57, cP_ok.bodies 57 body57⟩
noncomputable def row58 : FnRow Try.prog btAll := ⟨58, Try.f58, Try.f58.body.getD .skip, Try.func58, by kernel_rfl, stat58, cP_ok.bodies 58 body58⟩
noncomputable def row59 : FnRow Try.prog btAll := ⟨59, Try.f59, Try.f59.body.getD .skip, Try.func59, by kernel_rfl, stat59, cP_ok.bodies 59 body59⟩
noncomputable def row60 : FnRow Try.prog btAll := ⟨60, Try.f60, Try.f60.body.getD .skip, Try.func60, by kernel_rfl, stat60, cP_ok.bodies 60 body60⟩
noncomputable def row61 : FnRow Try.prog btAll := ⟨61, Try.f61, Try.f61.body.getD .skip, Try.func61, by kernel_rfl, stat61, cP_ok.bodies 61 body61⟩
noncomputable def row62 : FnRow Try.prog btAll := ⟨62, Try.f62, Try.f62.body.getD .skip, Try.func62, by kernel_rfl, stat62, cP_ok.bodies 62 body62⟩
noncomputable def row63 : FnRow Try.prog btAll := ⟨63, Try.f63, Try.f63.body.getD .skip, Try.func63, by kernel_rfl, stat63, cP_ok.bodies 63 body63⟩
noncomputable def row64 : FnRow Try.prog btAll := ⟨64, Try.f64, Try.f64.body.getD .skip, Try.func64, by kernel_rfl, stat64, cP_ok.bodies 64 body64⟩
noncomputable def row65 : FnRow Try.prog btAll := ⟨65, Try.f65, Try.f65.body.getD .skip, Try.func65, by kernel_rfl, stat65, cP_ok.bodies 65 body65⟩
noncomputable def row66 : FnRow Try.prog btAll := ⟨66, Try.f66, Try.f66.body.getD .skip, Try.func66, by kernel_rfl, stat66, cP_ok.bodies 66 body66⟩
noncomputable def row67 : FnRow Try.prog btAll := ⟨67, Try.f67, Try.f67.body.getD .skip, Try.func67, by kernel_rfl, stat67, cP_ok.bodies 67 body67⟩
noncomputable def row68 : FnRow Try.prog btAll := ⟨68, Try.f68, Try.f68.body.getD .skip, Try.func68, by kernel_rfl, stat68, cP_ok.bodies 68 body68⟩
noncomputable def row69 : FnRow Try.prog btAll := ⟨69, Try.f69, Try.f69.body.getD .skip, Try.func69, by kernel_rfl, stat69, cP_ok.bodies 69 body69⟩
noncomputable def row70 : FnRow Try.prog btAll := ⟨70, Try.f70, Try.f70.body.getD .skip, Try.func70, by kernel_rfl, stat70, cP_ok.bodies 70 body70⟩
noncomputable def row71 : FnRow Try.prog btAll := ⟨71, Try.f71, Try.f71.body.getD .skip, Try.func71, by kernel_rfl, stat71, cP_ok.bodies 71 body71⟩
noncomputable def row72 : FnRow Try.prog btAll := ⟨72, Try.f72, Try.f72.body.getD .skip, Try.func72, by kernel_rfl, stat72, cP_ok.bodies 72 body72⟩
noncomputable def row73 : FnRow Try.prog btAll := ⟨73, Try.f73, Try.f73.body.getD .skip, Try.func73, by kernel_rfl, stat73, cP_ok.bodies 73 body73⟩
noncomputable def row74 : FnRow Try.prog btAll := ⟨74, Try.f74, Try.f74.body.getD .skip, Try.func74, by kernel_rfl, stat74, cP_ok.bodies 74 body74⟩
noncomputable def row75 : FnRow Try.prog btAll := ⟨75, Try.f75, Try.f75.body.getD .skip, Try.func75, by kernel_rfl, stat75, cP_ok.bodies 75 body75⟩
noncomputable def row76 : FnRow Try.prog btAll := ⟨76, Try.f76, Try.f76.body.getD .skip, Try.func76, by kernel_rfl, stat76, cP_ok.bodies 76 body76⟩
noncomputable def row77 : FnRow Try.prog btAll := ⟨77, Try.f77, Try.f77.body.getD .skip, Try.func77, by kernel_rfl, stat77, cP_ok.bodies 77 body77⟩
noncomputable def row78 : FnRow Try.prog btAll := ⟨78, Try.f78, Try.f78.body.getD .skip, Try.func78, by kernel_rfl, stat78, cP_ok.bodies 78 body78⟩
noncomputable def row79 : FnRow Try.prog btAll := ⟨79, Try.f79, Try.f79.body.getD .skip, Try.func79, by kernel_rfl, stat79, cP_ok.bodies 79 body79⟩
noncomputable def row80 : FnRow Try.prog btAll := ⟨80, Try.f80, Try.f80.body.getD .skip, Try.func80, by kernel_rfl, stat80, cP_ok.bodies 80 body80⟩
noncomputable def row81 : FnRow Try.prog btAll := ⟨81, Try.f81, Try.f81.body.getD .skip, Try.func81, by kernel_rfl, stat81, cP_ok.bodies 81 body81⟩
noncomputable def row82 : FnRow Try.prog btAll := ⟨82, Try.f82, Try.f82.body.getD .skip, Try.func82, by kernel_rfl, stat82, cP_ok.bodies 82 body82⟩
noncomputable def row83 : FnRow Try.prog btAll := ⟨83, Try.f83, Try.f83.body.getD .skip, Try.func83, by kernel_rfl, stat83, cP_ok.bodies 83 body83⟩
noncomputable def row84 : FnRow Try.prog btAll := ⟨84, Try.f84, Try.f84.body.getD .skip, Try.func84, by kernel_rfl, stat84, cP_ok.bodies 84 body84⟩
noncomputable def row85 : FnRow Try.prog btAll := ⟨85, Try.f85, Try.f85.body.getD .skip, Try.func85, by kernel_rfl, stat85, cP_ok.bodies 85 body85⟩
noncomputable def row86 : FnRow Try.prog btAll := ⟨86, Try.f86, Try.f86.body.getD .skip, Try.func86, by kernel_rfl, stat86, cP_ok.bodies 86 body86⟩
noncomputable def row87 : FnRow Try.prog btAll := ⟨87, Try.f87, Try.f87.body.getD .skip, Try.func87, by kernel_rfl, stat87, cP_ok.bodies 87 body87⟩
noncomputable def row88 : FnRow Try.prog btAll := ⟨88, Try.f88, Try.f88.body.getD .skip, Try.func88, by kernel_rfl, stat88, cP_ok.bodies 88 body88⟩
noncomputable def row89 : FnRow Try.prog btAll := ⟨89, Try.f89, Try.f89.body.getD .skip, Try.func89, by kernel_rfl, stat89, cP_ok.bodies 89 body89⟩
noncomputable def row90 : FnRow Try.prog btAll := ⟨90, Try.f90, Try.f90.body.getD .skip, Try.func90, by kernel_rfl, stat90, cP_ok.bodies 90 body90⟩
noncomputable def row91 : FnRow Try.prog btAll := ⟨91, Try.f91, Try.f91.body.getD .skip, Try.func91, by kernel_rfl, stat91, cP_ok.bodies 91 body91⟩
noncomputable def row92 : FnRow Try.prog btAll := ⟨92, Try.f92, Try.f92.body.getD .skip, Try.func92, by kernel_rfl, stat92, cP_ok.bodies 92 body92⟩
noncomputable def row93 : FnRow Try.prog btAll := ⟨93, Try.f93, Try.f93.body.getD .skip, Try.func93, by kernel_rfl, stat93, cP_ok.bodies 93 body93⟩
noncomputable def row94 : FnRow Try.prog btAll := ⟨94, Try.f94, Try.f94.body.getD .skip, Try.func94, by kernel_rfl, stat94, cP_ok.bodies 94 body94⟩
noncomputable def row95 : FnRow Try.prog btAll := ⟨95, Try.f95, Try.f95.body.getD .skip, Try.func95, by kernel_rfl, stat95, cP_ok.bodies 95 body95⟩
noncomputable def row96 : FnRow Try.prog btAll := ⟨96, Try.f96, Try.f96.body.getD .skip, Try.func96, by kernel_rfl, stat96, cP_ok.bodies 96 body96⟩
noncomputable def row97 : FnRow Try.prog btAll := ⟨97, Try.f97, Try.f97.body.getD .skip, Try.func97, by kernel_rfl, stat97, cP_ok.bodies 97 body97⟩
noncomputable def row98 : FnRow Try.prog btAll := ⟨98, Try.f98, Try.f98.body.getD .skip, Try.func98, by kernel_rfl, stat98, cP_ok.bodies 98 body98⟩
noncomputable def row99 : FnRow Try.prog btAll := ⟨99, Try.f99, Try.f99.body.getD .skip, Try.func99, by kernel_rfl, stat99, cP_ok.bodies 99 body99⟩
noncomputable def row100 : FnRow Try.prog btAll := ⟨100, Try.f100, Try.f100.body.getD .skip, Try.func100, by kernel_rfl, stat100, cP_ok.bodies 100 body100⟩
noncomputable def row101 : FnRow Try.prog btAll := ⟨101, Try.f101, Try.f101.body.getD .skip, Try.func101, by kernel_rfl, stat101, cP_ok.bodies 101 body101⟩
noncomputable def row102 : FnRow Try.prog btAll := ⟨102, Try.f102, Try.f102.body.getD .skip, Try.func102, by kernel_rfl, stat102, cP_ok.bodies 102 body102⟩
noncomputable def row103 : FnRow Try.prog btAll := ⟨103, Try.f103, Try.f103.body.getD .skip, Try.func103, by kernel_rfl, stat103, cP_ok.bodies 103 body103⟩
noncomputable def row104 : FnRow Try.prog btAll := ⟨104, Try.f104, Try.f104.body.getD .skip, Try.func104, by kernel_rfl, stat104, cP_ok.bodies 104 body104⟩
noncomputable def row105 : FnRow Try.prog btAll := ⟨105, Try.f105, Try.f105.body.getD .skip, Try.func105, by kernel_rfl, stat105, cP_ok.bodies 105 body105⟩
noncomputable def row106 : FnRow Try.prog btAll := ⟨106, Try.f106, Try.f106.body.getD .skip, Try.func106, by kernel_rfl, stat106, cP_ok.bodies 106 body106⟩
noncomputable def row107 : FnRow Try.prog btAll := ⟨107, Try.f107, Try.f107.body.getD .skip, Try.func107, by kernel_rfl, stat107, cP_ok.bodies 107 body107⟩
noncomputable def row108 : FnRow Try.prog btAll := ⟨108, Try.f108, Try.f108.body.getD .skip, Try.func108, by kernel_rfl, stat108, cP_ok.bodies 108 body108⟩
noncomputable def row110 : FnRow Try.prog btAll := ⟨110, Try.f110, Try.f110.body.getD .skip, Try.func110, by kernel_rfl, stat110, cP_ok.bodies 110 body110⟩
noncomputable def row111 : FnRow Try.prog btAll := ⟨111, Try.f111, Try.f111.body.getD .skip, Try.func111, by kernel_rfl, stat111, cP_ok.bodies 111 body111⟩
noncomputable def row112 : FnRow Try.prog btAll := ⟨112, Try.f112, Try.f112.body.getD .skip, Try.func112, by kernel_rfl, stat112, cP_ok.bodies 112 body112⟩
noncomputable def row113 : FnRow Try.prog btAll := ⟨113, Try.f113, Try.f113.body.getD .skip, Try.func113, by kernel_rfl, stat113, cP_ok.bodies 113 body113⟩
noncomputable def row114 : FnRow Try.prog btAll := ⟨114, Try.f114, Try.f114.body.getD .skip, Try.func114, by kernel_rfl, stat114, cP_ok.bodies 114 body114⟩
noncomputable def row115 : FnRow Try.prog btAll := ⟨115, Try.f115, Try.f115.body.getD .skip, Try.func115, by kernel_rfl, stat115, cP_ok.bodies 115 body115⟩
noncomputable def row116 : FnRow Try.prog btAll := ⟨116, Try.f116, Try.f116.body.getD .skip, Try.func116, by kernel_rfl, stat116, cP_ok.bodies 116 body116⟩
noncomputable def row117 : FnRow Try.prog btAll := ⟨117, Try.f117, Try.f117.body.getD .skip, Try.func117, by kernel_rfl, stat117, cP_ok.bodies 117 body117⟩
noncomputable def row118 : FnRow Try.prog btAll := ⟨118, Try.f118, Try.f118.body.getD .skip, Try.func118, by kernel_rfl, stat118, cP_ok.bodies 118 body118⟩
noncomputable def row119 : FnRow Try.prog btAll := ⟨119, Try.f119, Try.f119.body.getD .skip, Try.func119, by kernel_rfl, stat119, cP_ok.bodies 119 body119⟩
noncomputable def row120 : FnRow Try.prog btAll := ⟨120, Try.f120, Try.f120.body.getD .skip, Try.func120, by kernel_rfl, stat120, cP_ok.bodies 120 body120⟩
noncomputable def row121 : FnRow Try.prog btAll := ⟨121, Try.f121, Try.f121.body.getD .skip, Try.func121, by kernel_rfl, stat121, cP_ok.bodies 121 body121⟩
noncomputable def row122 : FnRow Try.prog btAll := ⟨122, Try.f122, Try.f122.body.getD .skip, Try.func122, by kernel_rfl, stat122, cP_ok.bodies 122 body122⟩
noncomputable def row123 : FnRow Try.prog btAll := ⟨123, Try.f123, Try.f123.body.getD .skip, Try.func123, by kernel_rfl, stat123, cP_ok.bodies 123 body123⟩
noncomputable def row124 : FnRow Try.prog btAll := ⟨124, Try.f124, Try.f124.body.getD .skip, Try.func124, by kernel_rfl, stat124, cP_ok.bodies 124 body124⟩
noncomputable def row125 : FnRow Try.prog btAll := ⟨125, Try.f125, Try.f125.body.getD .skip, Try.func125, by kernel_rfl, stat125, cP_ok.bodies 125 body125⟩
noncomputable def row126 : FnRow Try.prog btAll := ⟨126, Try.f126, Try.f126.body.getD .skip, Try.func126, by kernel_rfl, stat126, cP_ok.bodies 126 body126⟩
noncomputable def row127 : FnRow Try.prog btAll := ⟨127, Try.f127, Try.f127.body.getD .skip, Try.func127, by kernel_rfl, stat127, cP_ok.bodies 127 body127⟩
noncomputable def row128 : FnRow Try.prog btAll := ⟨128, Try.f128, Try.f128.body.getD .skip, Try.func128, by kernel_rfl, stat128, cP_ok.bodies 128 body128⟩
noncomputable def row129 : FnRow Try.prog btAll := ⟨129, Try.f129, Try.f129.body.getD .skip, Try.func129, by kernel_rfl, stat129, cP_ok.bodies 129 body129⟩
noncomputable def row130 : FnRow Try.prog btAll := ⟨130, Try.f130, Try.f130.body.getD .skip, Try.func130, by kernel_rfl, stat130, cP_ok.bodies 130 body130⟩
noncomputable def row131 : FnRow Try.prog btAll := ⟨131, Try.f131, Try.f131.body.getD .skip, Try.func131, by kernel_rfl, stat131, cP_ok.bodies 131 body131⟩
noncomputable def row132 : FnRow Try.prog btAll := ⟨132, Try.f132, Try.f132.body.getD .skip, Try.func132, by kernel_rfl, stat132, cP_ok.bodies 132 body132⟩
noncomputable def row133 : FnRow Try.prog btAll := ⟨133, Try.f133, Try.f133.body.getD .skip, Try.func133, by kernel_rfl, stat133, cP_ok.bodies 133 body133⟩
noncomputable def row134 : FnRow Try.prog btAll := ⟨134, Try.f134, Try.f134.body.getD .skip, Try.func134, by kernel_rfl, stat134, cP_ok.bodies 134 body134⟩
noncomputable def row135 : FnRow Try.prog btAll := ⟨135, Try.f135, Try.f135.body.getD .skip, Try.func135, by kernel_rfl, stat135, cP_ok.bodies 135 body135⟩
noncomputable def row136 : FnRow Try.prog btAll := ⟨136, Try.f136, Try.f136.body.getD .skip, Try.func136, by kernel_rfl, stat136, cP_ok.bodies 136 body136⟩
noncomputable def row137 : FnRow Try.prog btAll := ⟨137, Try.f137, Try.f137.body.getD .skip, Try.func137, by kernel_rfl, stat137, cP_ok.bodies 137 body137⟩
noncomputable def row138 : FnRow Try.prog btAll := ⟨138, Try.f138, Try.f138.body.getD .skip, Try.func138, by kernel_rfl, stat138, cP_ok.bodies 138 body138⟩
noncomputable def row139 : FnRow Try.prog btAll := ⟨139, Try.f139, Try.f139.body.getD .skip, Try.func139, by kernel_rfl, stat139, cP_ok.bodies 139 body139⟩
noncomputable def row140 : FnRow Try.prog btAll := ⟨140, Try.f140, Try.f140.body.getD .skip, Try.func140, by kernel_rfl, stat140, cP_ok.bodies 140 body140⟩
noncomputable def row141 : FnRow Try.prog btAll := ⟨141, Try.f141, Try.f141.body.getD .skip, Try.func141, by kernel_rfl, stat141, cP_ok.bodies 141 body141⟩
noncomputable def row144 : FnRow Try.prog btAll := ⟨144, Try.f144, Try.f144.body.getD .skip, Try.func144, by kernel_rfl, stat144, cP_ok.bodies 144 body144⟩
noncomputable def row145 : FnRow Try.prog btAll := ⟨145, Try.f145, Try.f145.body.getD .skip, Try.func145, by kernel_rfl, stat145, cP_ok.bodies 145 body145⟩
noncomputable def row146 : FnRow Try.prog btAll := ⟨146, Try.f146, Try.f146.body.getD .skip, Try.func146, by kernel_rfl, stat146, cP_ok.bodies 146 body146⟩
noncomputable def row147 : FnRow Try.prog btAll := ⟨147, Try.f147, Try.f147.body.getD .skip, Try.func147, by kernel_rfl, stat147, cP_ok.bodies 147 body147⟩
noncomputable def row148 : FnRow Try.prog btAll := ⟨148, Try.f148, Try.f148.body.getD .skip, Try.func148, by kernel_rfl, stat148, cP_ok.bodies 148 body148⟩
noncomputable def row149 : FnRow Try.prog btAll := ⟨149, Try.f149, Try.f149.body.getD .skip, Try.func149, by kernel_rfl, stat149, cP_ok.bodies 149 body149⟩
noncomputable def row150 : FnRow Try.prog btAll := ⟨150, Try.f150, Try.f150.body.getD .skip, Try.func150, by kernel_rfl, stat150, cP_ok.bodies 150 body150⟩
noncomputable def row151 : FnRow Try.prog btAll := ⟨151, Try.f151, Try.f151.body.getD .skip, Try.func151, by kernel_rfl, stat151, cP_ok.bodies 151 body151⟩
noncomputable def row152 : FnRow Try.prog btAll := ⟨152, Try.f152, Try.f152.body.getD .skip, Try.func152, by kernel_rfl, stat152, cP_ok.bodies 152 body152⟩
noncomputable def row153 : FnRow Try.prog btAll := ⟨153, Try.f153, Try.f153.body.getD .skip, Try.func153, by kernel_rfl, stat153, cP_ok.bodies 153 body153⟩
noncomputable def row154 : FnRow Try.prog btAll := ⟨154, Try.f154, Try.f154.body.getD .skip, Try.func154, by kernel_rfl, stat154, cP_ok.bodies 154 body154⟩
noncomputable def row155 : FnRow Try.prog btAll := ⟨155, Try.f155, Try.f155.body.getD .skip, Try.func155, by kernel_rfl, stat155, cP_ok.bodies 155 body155⟩
noncomputable def row156 : FnRow Try.prog btAll := ⟨156, Try.f156, Try.f156.body.getD .skip, Try.func156, by kernel_rfl, stat156, cP_ok.bodies 156 body156⟩
noncomputable def row157 : FnRow Try.prog btAll := ⟨157, Try.f157, Try.f157.body.getD .skip, Try.func157, by kernel_rfl, stat157, cP_ok.bodies 157 body157⟩
noncomputable def row158 : FnRow Try.prog btAll := ⟨158, Try.f158, Try.f158.body.getD .skip, Try.func158, by kernel_rfl, stat158, cP_ok.bodies 158 body158⟩

noncomputable def fnTree : BT (FnRow Try.prog btAll) := (.node (.node (.node (.node (.node (.node (.node (.node .leaf none (.node .leaf (some row128) .leaf)) none (.node .leaf (some row64) .leaf)) none (.node .leaf (some row32) (.node .leaf (some row96) .leaf))) none (.node (.node (.node .leaf none (.node .leaf (some row144) .leaf)) none (.node .leaf (some row80) .leaf)) (some row16) (.node .leaf (some row48) (.node .leaf (some row112) .leaf)))) none (.node (.node (.node (.node .leaf none (.node .leaf (some row136) .leaf)) none (.node .leaf (some row72) .leaf)) none (.node .leaf (some row40) (.node .leaf (some row104) .leaf))) (some row8) (.node (.node (.node .leaf none (.node .leaf (some row152) .leaf)) none (.node .leaf (some row88) .leaf)) (some row24) (.node .leaf (some row56) (.node .leaf (some row120) .leaf))))) none (.node (.node (.node (.node (.node .leaf none (.node .leaf (some row132) .leaf)) none (.node .leaf (some row68) .leaf)) none (.node .leaf (some row36) (.node .leaf (some row100) .leaf))) none (.node (.node (.node .leaf none (.node .leaf (some row148) .leaf)) none (.node .leaf (some row84) .leaf)) (some row20) (.node .leaf (some row52) (.node .leaf (some row116) .leaf)))) (some row4) (.node (.node (.node (.node .leaf none (.node .leaf (some row140) .leaf)) none (.node .leaf (some row76) .leaf)) none (.node .leaf (some row44) (.node .leaf (some row108) .leaf))) (some row12) (.node (.node (.node .leaf none (.node .leaf (some row156) .leaf)) none (.node .leaf (some row92) .leaf)) (some row28) (.node .leaf (some row60) (.node .leaf (some row124) .leaf)))))) none (.node (.node (.node (.node (.node (.node .leaf none (.node .leaf (some row130) .leaf)) none (.node .leaf (some row66) .leaf)) none (.node .leaf (some row34) (.node .leaf (some row98) .leaf))) none (.node (.node (.node .leaf none (.node .leaf (some row146) .leaf)) none (.node .leaf (some row82) .leaf)) (some row18) (.node .leaf (some row50) (.node .leaf (some row114) .leaf)))) none (.node (.node (.node (.node .leaf none (.node .leaf (some row138) .leaf)) none (.node .leaf (some row74) .leaf)) none (.node .leaf (some row42) (.node .leaf (some row106) .leaf))) (some row10) (.node (.node (.node .leaf none (.node .leaf (some row154) .leaf)) none (.node .leaf (some row90) .leaf)) (some row26) (.node .leaf (some row58) (.node .leaf (some row122) .leaf))))) (some row2) (.node (.node (.node (.node (.node .leaf none (.node .leaf (some row134) .leaf)) none (.node .leaf (some row70) .leaf)) none (.node .leaf (some row38) (.node .leaf (some row102) .leaf))) none (.node (.node (.node .leaf none (.node .leaf (some row150) .leaf)) none (.node .leaf (some row86) .leaf)) (some row22) (.node .leaf (some row54) (.node .leaf (some row118) .leaf)))) (some row6) (.node (.node (.node .leaf none (.node .leaf (some row78) .leaf)) none (.node .leaf (some row46) (.node .leaf (some row110) .leaf))) (some row14) (.node (.node (.node .leaf none (.node .leaf (some row158) .leaf)) none (.node .leaf (some row94) .leaf)) (some row30) (.node .leaf (some row62) (.node .leaf (some row126) .leaf))))))) none (.node (.node (.node (.node (.node (.node (.node .leaf none (.node .leaf (some row129) .leaf)) none (.node .leaf (some row65) .leaf)) none (.node .leaf (some row33) (.node .leaf (some row97) .leaf))) none (.node (.node (.node .leaf none (.node .leaf (some row145) .leaf)) none (.node .leaf (some row81) .leaf)) (some row17) (.node .leaf (some row49) (.node .leaf (some row113) .leaf)))) none (.node (.node (.node (.node .leaf none (.node .leaf (some row137) .leaf)) none (.node .leaf (some row73) .leaf)) none (.node .leaf (some row41) (.node .leaf (some row105) .leaf))) (some row9) (.node (.node (.node .leaf none (.node .leaf (some row153) .leaf)) none (.node .leaf (some row89) .leaf)) (some row25) (.node .leaf (some row57) (.node .leaf (some row121) .leaf))))) none (.node (.node (.node (.node (.node .leaf none (.node .leaf (some row133) .leaf)) none (.node .leaf (some row69) .leaf)) none (.node .leaf (some row37) (.node .leaf (some row101) .leaf))) none (.node (.node (.node .leaf none (.node .leaf (some row149) .leaf)) none (.node .leaf (some row85) .leaf)) (some row21) (.node .leaf (some row53) (.node .leaf (some row117) .leaf)))) (some row5) (.node (.node (.node (.node .leaf none (.node .leaf (some row141) .leaf)) none (.node .leaf (some row77) .leaf)) none (.node .leaf (some row45) .leaf)) (some row13) (.node (.node (.node .leaf none (.node .leaf (some row157) .leaf)) none (.node .leaf (some row93) .leaf)) (some row29) (.node .leaf (some row61) (.node .leaf (some row125) .leaf)))))) none (.node (.node (.node (.node (.node (.node .leaf none (.node .leaf (some row131) .leaf)) none (.node .leaf (some row67) .leaf)) none (.node .leaf (some row35) (.node .leaf (some row99) .leaf))) none (.node (.node (.node .leaf none (.node .leaf (some row147) .leaf)) none (.node .leaf (some row83) .leaf)) (some row19) (.node .leaf (some row51) (.node .leaf (some row115) .leaf)))) none (.node (.node (.node (.node .leaf none (.node .leaf (some row139) .leaf)) none (.node .leaf (some row75) .leaf)) none (.node .leaf (some row43) (.node .leaf (some row107) .leaf))) (some row11) (.node (.node (.node .leaf none (.node .leaf (some row155) .leaf)) none (.node .leaf (some row91) .leaf)) (some row27) (.node .leaf (some row59) (.node .leaf (some row123) .leaf))))) (some row3) (.node (.node (.node (.node (.node .leaf none (.node .leaf (some row135) .leaf)) none (.node .leaf (some row71) .leaf)) none (.node .leaf (some row39) (.node .leaf (some row103) .leaf))) none (.node (.node (.node .leaf none (.node .leaf (some row151) .leaf)) none (.node .leaf (some row87) .leaf)) (some row23) (.node .leaf (some row55) (.node .leaf (some row119) .leaf)))) (some row7) (.node (.node (.node .leaf none (.node .leaf (some row79) .leaf)) none (.node .leaf (some row47) (.node .leaf (some row111) .leaf))) (some row15) (.node (.node .leaf none (.node .leaf (some row95) .leaf)) (some row31) (.node .leaf (some row63) (.node .leaf (some row127) .leaf))))))))

noncomputable def fnAt (f : FuncId) : Option (FnRow Try.prog btAll) := fnTree.get (bits f f)
noncomputable def fnIs (f : FuncId) : Bool :=
  match fnAt f with
  | some r => Nat.beq r.num f
  | none => false
theorem fnIs_ok (f : FuncId) (h : fnIs f = true) : HasBody Try.prog f := by
  unfold fnIs at h
  split at h
  · rename_i r _
    rw [← Nat.eq_of_beq_eq_true h]
    exact r.has
  · cases h

noncomputable def cT : Cx := { T := { info := tyAt, flat := flats Try.prog }, bodies := fnIs }
theorem cT_ok : cT.Ok Try.prog := ⟨⟨tyAt_ok, cP_ok.T.flat⟩, fnIs_ok⟩

/-- A whole call, from nothing. -/
noncomputable def whole (n d : Nat) (f : FuncId) (args : List Value) : Option (AE × St × Log) := (orcN cT btAll fnAt n d).call f args St.nil

def answers : Option (AE × St × Log) → Option Value
  | some (.ret v, _, _) => some v
  | _ => none

theorem whole_call {n d : Nat} {f : FuncId} {args : List Value} {v : Value} (h : answers (whole n d f args) = some v) (ha : plainL args = true) (hv : plain v = true) (σ : St) : DCall Try.prog f args σ (.ret v) σ [] := by
  unfold answers at h
  split at h
  · rename_i v' σ' lg hw
    cases h
    exact ((orcN_ok cT_ok mixed d).call f args St.nil _ σ' lg hw).alone ha hv σ
  · cases h

end Go.Ab
